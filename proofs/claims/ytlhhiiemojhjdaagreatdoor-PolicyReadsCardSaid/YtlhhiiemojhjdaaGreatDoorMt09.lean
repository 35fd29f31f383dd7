/- Texts of this proof, laid into one: KbR, KbS, KcA, TiedJ, KaK, KcB, KcC, KcD, KcE, KcF, PlS, KcG, KcH. -/
import Derived.Test.YtlhhiiemojhjdaaGreatDoorMt08
import Derived.Laws.ResultCell
import Derived.Shelf.Unicode.ValidAny
import Derived.Test.YtlhhiiemojhjdaaGreatDoorRows
import Derived.ProofKit
import Derived.LaidMore
import Derived.LaidSub
import Derived.MakeChecks
import Derived.Lay
import GoSem.PinnedTables
import Derived.Lib.LaidU8
import Derived.Lib.LaidU8T
import Derived.OpenShut
import Derived.Stop.Joined
import Derived.Lib.SliceRun
set_option linter.unusedVariables false
set_option linter.unusedSimpArgs false
namespace Go.Proofs.YtlhhiiemojhjdaaGreatDoor
open Go Go.RowKit
theorem results_json {fn : Func} {p q : Tmp} (h : fn.results = #[.cell p 46, .tmp q]) {tmps : Array Value} {w : World} {g : Nat} {j : JsonD} {vn vk : Value} (hp : tmps[p]?.getD undef = .pointer (some ⟨g, 0, none⟩)) (hb : w.heap[g]? = some (.cells (cellJ j vn vk).toArray 46 (0, 0))) :
    (results fn tmps).run Tryz.prog w = .ok (.tuple #[.agg (cellJ j vn vk).toArray, tmps.getD q undef]) w := by
  rw [results_cell_tmp h]
  have h1 := run_loadVar_row w g 46 46 _ _ _ hb Tryz.underlying46 rfl (info_sz j vn vk)
  simp [hp, asAddr, Result.andThen, h1]
def coreR (s : Txt) : PR JsonD := (valR 20 (skipJ s)).bind fun v t => if skipJ t = [] then .ok v [] else .bad 54 (skipJ t).length
def ParsedJ (w0 : World) (jb : Nat) (v : JsonD) (W : World) : Prop := (∃ vn vk, W.heap[jb]? = some (.cells (cellJ v vn vk).toArray 46 (0, 0)) ∧ JO W v w0.heap.size W.heap.size vn vk) ∧ GX [jb] w0 W
def Clo1P (s : Txt) (w0 : World) (jb : Nat) (a : PR JsonD) (e : Ending) (w' : World) : Prop :=
  match a with
  | .ok v _ => e = .returned (.tuple #[]) ∧ ParsedJ w0 jb v w'
  | .bad c n => (∃ bf, e = .panicked [{ v := .iface 32 (.pointer (some ⟨bf, 0, none⟩)), recovered := false }] ∧ FaultJ w' bf c ((s.length - n : Nat) : Int)) ∧ GX [jb] w0 w'
set_option maxRecDepth 100000 in
theorem parse1_any (s : Txt) (hl : s.length ≤ 1000000000) (sb jb : Nat) (W : World) (hs : W.cell? ⟨sb, 0, none⟩ = some (.string ⟨s.toArray⟩)) (hj : W.heap[jb]? = some (.cells zeroC.toArray 46 (0, 0))) (hsj : sb < jb) (hu : Lib.Utf8Tabs 0 1 W) :
    Calls Tryz.prog 43 #[.pointer (some ⟨sb, 0, none⟩), .pointer (some ⟨jb, 0, none⟩)] W (Clo1P s W jb (coreR s)) := by
  have hjl := lt_of_heap hj
  have HJ := Lib.hid hj
  have HS := Lib.hid hs
  have HU := Lib.hid hu
  clear hj hu
  obtain ⟨N, hN⟩ : ∃ N, coreR s = N := ⟨_, rfl⟩
  rw [hN]
  have HN0 := Lib.hid hN
  clear hN
  go_enter Tryz.func43, Tryz.ntmps43
  go_wp2_with fail
  obtain ⟨R, hRR⟩ : ∃ R, W.heap.size = R := ⟨_, rfl⟩
  obtain ⟨W1, hW1⟩ : ∃ W1, W.alloc (.cells #[.string ⟨s.toArray⟩, .int .i64 0] 96) = W1 := ⟨_, rfl⟩
  have hq1 : Q W W1 := by rw [← hW1]; exact (Q.refl W).alloc _
  have hr1 : RdB W1 R s 0 := by rw [← hW1, ← hRR]; exact heap_alloc_new W _
  rw [hW1, hRR]
  rw [hRR] at hjl
  have HQ1 := Lib.hid hq1
  have HR1 := Lib.hid hr1
  have HRR := Lib.hid hRR
  have HB1 : Hid (RB W R W1) := Lib.hid ⟨HU.out, hq1, by omega⟩
  have HBl := Lib.hid (fun q W (h : RdB W R s q) (hq : q ≤ s.length) => blanks_any R s q W h hq hl)
  have HWs := Lib.hid (fun q (hq : q ≤ s.length) => ws_at (s := s) (p := q) hq)
  obtain ⟨k1, k2, k3⟩ := HWs.out 0 (by omega)
  obtain ⟨q1, hq1e⟩ : ∃ q, wsAt s 0 = q := ⟨_, rfl⟩
  have HB0 := Lib.hid (HBl.out 0 W1 HR1.out (by omega))
  rw [hq1e] at k1 k3 HB0
  rw [List.drop_zero] at k1
  have HK1 := Lib.hid k1
  clear hW1 hq1 hr1 hRR k1 k2 hq1e hs
  refine HB0.out.mono ?_
  rintro e w2 ⟨rfl, hR2, hG2⟩
  have HR2 := Lib.hid hR2
  have HG2 := Lib.hid hG2
  have HB2 := Lib.hid (HB1.out.gx hG2)
  have hva := value_all W R s hl 20 (by omega) q1 w2 hR2 (HB1.out.gx hG2) k3
  rw [show (20 : Int) - ((20 : Nat) : Int) = 0 from rfl] at hva
  rw [HK1.out] at hva
  have hgd := valR_good 20 (skipJ s)
  obtain ⟨V, hV⟩ : ∃ V, valR 20 (skipJ s) = V := ⟨_, rfl⟩
  have hN := HN0.out
  have hN2 : N = V.bind fun v t => if skipJ t = [] then .ok v [] else .bad 54 (skipJ t).length := by rw [← hN, ← hV]; rfl
  rw [hV] at hva
  have HVa := Lib.hid hva
  have HN := Lib.hid hN2
  clear hR2 hG2 hva hV hN hN2 hgd HB0
  go_wp2_with fail
  refine HVa.out.mono ?_
  intro e w3 hU
  have HU3 := Lib.hid hU
  clear hU HVa
  have HGQ : Hid (∀ W', GX [R] W1 W' → GX [jb] W W') := Lib.hid (fun W' h => (GX.q HQ1.out).sub h (fun k hk => by simp at hk; right; rw [HRR.out]; omega))
  rcases V with ⟨v, r⟩ | ⟨c, n⟩
  rotate_left
  · obtain ⟨⟨bf, rfl, hf⟩, hg⟩ := HU3.out
    have HX : Hid (Clo1P s W jb N (.panicked [{ v := .iface 32 (.pointer (some ⟨bf, 0, none⟩)), recovered := false }]) w3) := Lib.hid (by
      rw [HN.out]
      exact ⟨⟨bf, rfl, hf⟩, HGQ.out _ (HG2.out.trans hg)⟩)
    clear hf hg
    go_wp2_with fail
    exact ⟨rfl, HX.out⟩
  obtain ⟨⟨un, uk, rfl, hj⟩, ⟨q3, m1, m2, m3⟩, hg⟩ := HU3.out
  have HG3 := Lib.hid (HG2.out.trans hg)
  have HJo := Lib.hid hj
  have HJ3 : Hid (w3.heap[jb]? = some (.cells zeroC.toArray 46 (0, 0))) := Lib.hid (HG3.out.heap (by simp; omega) (HQ1.out.block HJ.out))
  have HR3 := Lib.hid m3
  have HM2 := Lib.hid m2
  have HIn : Hid ((Tryz.prog.info? 46).map (·.size) = some (cellJ v un uk).toArray.size) := Lib.hid (info_sz v un uk)
  have HOne := Lib.hid (cellJ_one (j := v) (jo_form hj).1 (jo_form hj).2)
  have HSz : Hid (R < w2.heap.size) := Lib.hid HR2.out.lt
  have HS3 : Hid (w3.cell? ⟨sb, 0, none⟩ = some (.string ⟨s.toArray⟩)) := Lib.hid (HG3.out.cellJ (by simp; omega) (HQ1.out.cell HS.out))
  clear hj m2 m3 hg HU3
  go_upto_region 3 with (refine wpList_store_row rfl 46 (.tmp 1) (.tmp 9) rfl jb (cellJ v un uk).toArray rfl rfl 46 _ HJ3.out HIn.out rfl HOne.out ?_)
  simp only [Act.put]
  have HR4 : Hid (RdB (w3.setRow jb (cellJ v un uk).toArray) R s q3) := Lib.hid (by
    unfold RdB
    simp only [World.setRow, Array.getElem?_modify]
    rw [if_neg (by omega)]; exact HR3.out)
  have HJ4 : Hid ((w3.setRow jb (cellJ v un uk).toArray).heap[jb]? = some (.cells (cellJ v un uk).toArray 46 (0, 0))) := Lib.hid (setRow_at HJ3.out _)
  have HG4 : Hid (GX [jb, R] W1 (w3.setRow jb (cellJ v un uk).toArray)) := Lib.hid ((HG3.out.mono (by simp)).setRow (by simp) _)
  have HJo4 : Hid (JO (w3.setRow jb (cellJ v un uk).toArray) v w2.heap.size (w3.setRow jb (cellJ v un uk).toArray).heap.size un uk) := Lib.hid (by
    have e : (w3.setRow jb (cellJ v un uk).toArray).heap.size = w3.heap.size := by simp [World.setRow]
    rw [e]
    refine JO.frame v _ _ un uk (fun k h1 h2 h3 => ?_) HJo.out
    simp only [World.setRow, Array.getElem?_modify]
    rw [if_neg (by have := HSz.out; omega)])
  have HS4 : Hid ((w3.setRow jb (cellJ v un uk).toArray).cell? ⟨sb, 0, none⟩ = some (.string ⟨s.toArray⟩)) := Lib.hid (by
    have h := HS3.out
    unfold World.cell? at h ⊢
    simp only [World.setRow, Array.getElem?_modify]
    rw [if_neg (by omega)]; exact h)
  obtain ⟨W4, hW4⟩ : ∃ W4, w3.setRow jb (cellJ v un uk).toArray = W4 := ⟨_, rfl⟩
  rw [hW4] at HR4 HJ4 HG4 HJo4 HS4
  rw [hW4]
  clear hW4 HJ3 HR3 HS3 HJo HG3
  obtain ⟨k1, k2b, k3b⟩ := HWs.out q3 m1
  obtain ⟨q5, hq5⟩ : ∃ q, wsAt s q3 = q := ⟨_, rfl⟩
  have HB5 := Lib.hid (HBl.out q3 W4 HR4.out m1)
  rw [hq5] at k1 k2b k3b HB5
  have HK5 : Hid (s.drop q5 = skipJ r) := Lib.hid (by rw [k1, HM2.out])
  clear k1 hq5
  go_wp2_with fail
  refine HB5.out.mono ?_
  rintro e w5 ⟨rfl, hR5, hG5⟩
  have HR5 := Lib.hid hR5
  have HG5 := Lib.hid (HG4.out.trans (hG5.mono (by simp)))
  have HJ5 : Hid (w5.heap[jb]? = some (.cells (cellJ v un uk).toArray 46 (0, 0))) := Lib.hid (hG5.heap (by simp; omega) HJ4.out)
  have HJo5 : Hid (JO w5 v w2.heap.size w5.heap.size un uk) := Lib.hid ((JO.frame v _ _ un uk (fun k h1 h2 h3 => hG5.block k h3 (by have := HSz.out; simp; omega)) HJo4.out).widen (Nat.le_refl _) hG5.size)
  have hS5 := hG5.cellJ (p := ⟨sb, 0, none⟩) (by simp; omega) HS4.out
  have c1 : ∀ mm : QW w5, mm.val.cell? ⟨R, 1, none⟩ = some (.int .i64 (q5 : Int)) := fun mm => mm.cell HR5.out.c1
  have cs : ∀ mm : QW w5, mm.val.cell? ⟨sb, 0, none⟩ = some (.string ⟨s.toArray⟩) := fun mm => mm.cell hS5
  have HGE : Hid (∀ W', GX [jb, R] W1 W' → GX [jb] W W') := Lib.hid (fun W' h => (GX.q HQ1.out).sub h (fun k hk => by simp at hk; rcases hk with rfl | rfl; exact .inl (by simp); right; rw [HRR.out]; omega))
  clear hR5 hG5 hS5 HB5 HJ4 HJo4 HS4 HR4 HG4 HGQ
  by_cases hlt : q5 < s.length
  · have g1 : decide (q5 < s.length) = true := by simpa using hlt
    have HX : Hid (∀ wa wb bf, Q w5 wa → FaultJ wb bf 54 (q5 : Int) → Q wa wb → Clo1P s W jb N (.panicked [{ v := .iface 32 (.pointer (some ⟨bf, 0, none⟩)), recovered := false }]) wb) := Lib.hid (fun wa wb bf h1 hf h2 => by
      have hne : skipJ r ≠ [] := fun e => by
        have h := HK5.out
        rw [e] at h
        have := congrArg List.length h
        rw [List.length_drop] at this
        simp at this; omega
      have hlen : (skipJ r).length = s.length - q5 := by rw [← HK5.out, List.length_drop]
      have e : N = .bad 54 (s.length - q5) := by
        rw [HN.out]
        show (if skipJ r = [] then PR.ok v [] else PR.bad 54 (skipJ r).length) = _
        rw [if_neg hne, hlen]
      rw [e]
      refine ⟨⟨bf, rfl, ?_⟩, HGE.out _ (HG5.out.trans (GX.q (h1.trans h2)))⟩
      rw [show s.length - (s.length - q5) = q5 by omega]; exact hf)
    clear hlt
    go_upto_region 4 with (fail)
    refine wp_region_q (by kernel_rfl) (by kernel_rfl) ?_
    (repeat (go_big_quiet_step (fail)))
    refine wpQuiet_nil ?_
    rintro w6 ⟨m6, hm6⟩
    have hq6 : Q w5 w6 := by rw [hm6]; exact m6.le
    clear m6 hm6 c1 cs
    have c1 := (HR5.out.q hq6).c1
    have HQ6 := Lib.hid hq6
    clear hq6
    go_wp2_with fail
    refine (fail_any 54 _ _).mono ?_
    rintro e w7 ⟨⟨bf, rfl, hf⟩, hq7⟩
    have HF := Lib.hid hf
    have HQ7 := Lib.hid hq7
    clear hf hq7
    go_wp2_with fail
    exact ⟨rfl, HX.out _ _ _ HQ6.out HF.out HQ7.out⟩
  · have g1 : decide (q5 < s.length) = false := by simpa using hlt
    have HX : Hid (∀ wa, Q w5 wa → Clo1P s W jb N (.returned (.tuple #[])) wa) := Lib.hid (fun wa h1 => by
      have e : N = .ok v [] := by
        rw [HN.out]
        show (if skipJ r = [] then PR.ok v [] else PR.bad 54 (skipJ r).length) = _
        rw [if_pos (by rw [← HK5.out, List.drop_of_length_le (by omega)])]
      rw [e]
      refine ⟨rfl, ⟨un, uk, h1.block HJ5.out, ?_⟩, HGE.out _ (HG5.out.trans (GX.q h1))⟩
      have hs2 := HSz.out
      have hr := HRR.out
      exact (JO.frame v _ _ un uk (fun k _ _ e3 => Below.block h1 k e3) HJo5.out).widen (by omega) h1.size)
    clear hlt
    go_upto_region 4 with (fail)
    refine wp_region_q (by kernel_rfl) (by kernel_rfl) ?_
    (repeat (go_big_quiet_step (fail)))
    refine wpQuiet_nil ?_
    rintro w6 ⟨m6, hm6⟩
    have hq6 : Q w5 w6 := by rw [hm6]; exact m6.le
    clear m6 hm6 c1 cs
    have HQ6 := Lib.hid (HX.out _ hq6)
    clear hq6
    go_wp2_with fail
    go_end0
    exact HQ6.out
end Go.Proofs.YtlhhiiemojhjdaaGreatDoor
set_option linter.unusedVariables false
set_option linter.unusedSimpArgs false
namespace Go.Proofs.YtlhhiiemojhjdaaGreatDoor
open Go Go.RowKit
def ParseP (s : Txt) (w : World) (e : Ending) (w' : World) : Prop := Q w w' ∧ match parseJ s with
  | .ok v => ∃ vn vk, e = .returned (.tuple #[.agg (cellJ v vn vk).toArray, .nilIface]) ∧ JO w' v w.heap.size w'.heap.size vn vk
  | .error ce => ∃ bf, e = .returned (.tuple #[.agg zeroC.toArray, .iface 32 (.pointer (some ⟨bf, 0, none⟩))]) ∧ FaultJ w' bf ce.1 (ce.2 : Nat)
theorem parse_core {s : Txt} (h : s.length ≤ 8000) : parseJ s = match coreR s with
    | .ok v _ => .ok v
    | .bad e n => .error (e, s.length - n) := by
  unfold parseJ coreR
  rw [if_neg (by omega)]
  cases valR 20 (skipJ s) with
  | bad e n => rfl
  | ok v t =>
    show (if skipJ t = [] then Except.ok v else Except.error (54, s.length - (skipJ t).length)) = match (if skipJ t = [] then PR.ok v [] else PR.bad 54 (skipJ t).length : PR JsonD) with
      | .ok v _ => .ok v
      | .bad e n => .error (e, s.length - n)
    split <;> rfl
def ParA (s : Txt) (W0 : World) (jb N : Nat) (W : World) : Prop := ∃ W1 v r, coreR s = .ok v r ∧ ParsedJ W0 jb v W1 ∧ GX [N] W1 W
def ParB (s : Txt) (W0 : World) (jb N : Nat) (bf : Nat) (W : World) : Prop := ∃ W1 c n, coreR s = .bad c n ∧ FaultJ W1 bf c ((s.length - n : Nat) : Int) ∧ W1.heap[N]? = some (.cells #[.nilIface] 27 (0, 0)) ∧ GX [jb] W0 W1 ∧ GX [N] W1 W
theorem ParB.f {s : Txt} {W0 : World} {jb N bf : Nat} {W : World} (h : ParB s W0 jb N bf W) : ∃ c n, coreR s = .bad c n ∧ FaultJ W bf c ((s.length - n : Nat) : Int) ∧ GX [jb, N] W0 W := by
  obtain ⟨W1, c, n, h1, h2, h3, h4, h5⟩ := h
  refine ⟨c, n, h1, h5.heap ?_ h2, (h4.mono (by simp)).trans (h5.mono (by simp))⟩
  intro e
  simp at e
  subst e
  unfold FaultJ at h2
  rw [h3] at h2
  injection h2 with h2
  injection h2 with h2 _ _
  cases h2
theorem ParA.f {s : Txt} {W0 : World} {jb N : Nat} {W : World} (h : ParA s W0 jb N W) (hN : N < W0.heap.size) (hj : jb < N) : ∃ v r vn vk, coreR s = .ok v r ∧ W.heap[jb]? = some (.cells (cellJ v vn vk).toArray 46 (0, 0)) ∧ JO W v W0.heap.size W.heap.size vn vk ∧ GX [jb, N] W0 W := by
  obtain ⟨W1, v, r, h1, ⟨⟨vn, vk, h2, h3⟩, h4⟩, h5⟩ := h
  exact ⟨v, r, vn, vk, h1, h5.heap (by simp; omega) h2, (JO.frame v _ _ vn vk (fun k e1 e2 e3 => h5.block k e3 (by simp; omega)) h3).widen (Nat.le_refl _) h5.size, (h4.mono (by simp)).trans (h5.mono (by simp))⟩
theorem zero_box (w : World) (o1 o2 : Obj) : (((w.alloc o1).alloc (.cells zeroC.toArray 46)).alloc o2).heap[w.heap.size + 1]? = some (.cells (cellJ zeroJ (.slice none 0 0) (.slice none 0 0)).toArray 46 (0, 0)) := by
  have e1 : (w.alloc o1).heap.size = w.heap.size + 1 := by simp
  have h := heap_alloc_new (w.alloc o1) (.cells zeroC.toArray 46)
  rw [e1] at h
  exact ((Q.refl _).alloc o2).block h
set_option maxRecDepth 100000 in
theorem parse_any (s : Txt) (w : World) (hu : Lib.Utf8Tabs 0 1 w) :
    Calls Tryz.prog 30 #[.string ⟨s.toArray⟩] w (ParseP s w) := by
  have HU := Lib.hid hu
  clear hu
  by_cases hl : 8000 < s.length
  · have g1 : decide ((8000 : Int) < (s.length : Int)) = true := by simp; omega
    have HP : Hid (parseJ s = .error (56, 0)) := Lib.hid (by unfold parseJ; rw [if_pos hl])
    clear hl
    go_enter Tryz.func30, Tryz.ntmps30
    go_wp2_with fail
    refine bodyPost_ret (results_json (j := zeroJ) (vn := .slice none 0 0) (vk := .slice none 0 0) rfl (by rfl) (zero_box _ _ _)) rfl ?_
    refine ⟨(((Q.refl w).alloc _).alloc _).alloc _, ?_⟩
    rw [HP.out]
    refine ⟨_, rfl, ?_⟩
    have e : ((w.alloc (.cells #[.string ⟨s.toArray⟩] 9)).alloc (.cells zeroC.toArray 46)).heap.size = w.heap.size + 1 + 1 := by simp
    have := heap_alloc_new ((w.alloc (.cells #[.string ⟨s.toArray⟩] 9)).alloc (.cells zeroC.toArray 46)) (.cells #[.int .i64 56, .int .i64 0, .nilIface] 36)
    rw [e] at this
    exact this
  · have g1 : decide ((8000 : Int) < (s.length : Int)) = false := by simp; omega
    have hl2 : s.length ≤ 8000 := by omega
    have hmf : ∀ (fn : Fn) (first cap : Array Value) (w : World), (Instr.makeFunc fn first cap).run Tryz.prog w = .ok (.func fn first cap) w := fun _ _ _ _ => rfl
    clear hl
    go_enter Tryz.func30, Tryz.ntmps30
    go_wp2_with fail
    have e1 := heap_alloc_new w (.cells #[.string ⟨s.toArray⟩] 9)
    have q1 : Q w (w.alloc (.cells #[.string ⟨s.toArray⟩] 9)) := (Q.refl w).alloc _
    obtain ⟨W1, hW1⟩ : ∃ W1, w.alloc (.cells #[.string ⟨s.toArray⟩] 9) = W1 := ⟨_, rfl⟩
    have s1 : W1.heap.size = w.heap.size + 1 := by rw [← hW1]; simp
    rw [hW1] at e1 q1
    have e2 := heap_alloc_new W1 (.cells zeroC.toArray 46)
    have q2 : Q W1 (W1.alloc (.cells zeroC.toArray 46)) := (Q.refl W1).alloc _
    obtain ⟨W2, hW2⟩ : ∃ W2, W1.alloc (.cells zeroC.toArray 46) = W2 := ⟨_, rfl⟩
    have s2 : W2.heap.size = w.heap.size + 1 + 1 := by rw [← hW2]; simp [s1]
    rw [hW2] at e2 q2
    have e3 := heap_alloc_new W2 (.cells zeroC.toArray 46)
    have q3 : Q W2 (W2.alloc (.cells zeroC.toArray 46)) := (Q.refl W2).alloc _
    obtain ⟨W3, hW3⟩ : ∃ W3, W2.alloc (.cells zeroC.toArray 46) = W3 := ⟨_, rfl⟩
    have s3 : W3.heap.size = w.heap.size + 1 + 1 + 1 := by rw [← hW3]; simp [s2]
    rw [hW3] at e3 q3
    have hW2' : W1.alloc (.cells #[.int .i64 0, .string ⟨#[]⟩, .slice none 0 0, .slice none 0 0] 46) = W2 := hW2
    have hW3' : W2.alloc (.cells #[.int .i64 0, .string ⟨#[]⟩, .slice none 0 0, .slice none 0 0] 46) = W3 := hW3
    rw [hW1, hW2', hW3']
    rw [s1] at e2
    rw [s2] at e3
    have qq : Q w W3 := (q1.trans q2).trans q3
    have HSb : Hid (W3.cell? ⟨w.heap.size, 0, none⟩ = some (.string ⟨s.toArray⟩)) := Lib.hid (by rw [cell_of_row _ _ _ _ _ _ (q3.block (q2.block e1))]; rfl)
    have HRv : Hid (W3.heap[w.heap.size + 1]? = some (.cells zeroC.toArray 46 (0, 0))) := Lib.hid (q3.block e2)
    have HJb := Lib.hid e3
    have HQ3 := Lib.hid qq
    have HS3 := Lib.hid s3
    clear e1 e2 e3 q1 q2 q3 qq hW1 hW2 hW3 hW2' hW3' s1 s2
    have HQ4 : Hid (Q W3 (W3.alloc (.cells #[.nilIface] 27))) := Lib.hid ((Q.refl W3).alloc _)
    have HN4 : Hid ((W3.alloc (.cells #[.nilIface] 27)).heap[W3.heap.size]? = some (.cells #[.nilIface] 27 (0, 0))) := Lib.hid (heap_alloc_new W3 _)
    have HZ4 : Hid ((W3.alloc (.cells #[.nilIface] 27)).heap.size = W3.heap.size + 1) := Lib.hid (by simp)
    have hp1 := parse1_any s (by omega) w.heap.size (w.heap.size + 1 + 1) (W3.alloc (.cells #[.nilIface] 27)) (HQ4.out.cell HSb.out) (HQ4.out.block HJb.out) (by omega) (Utf8Tabs_below HU.out (HQ3.out.trans HQ4.out))
    have htr : Calls Tryz.prog 43 #[.pointer (some ⟨w.heap.size, 0, none⟩), .pointer (some ⟨w.heap.size + 1 + 1, 0, none⟩)] (W3.alloc (.cells #[.nilIface] 27)) (TriedP W3.heap.size (ParA s (W3.alloc (.cells #[.nilIface] 27)) (w.heap.size + 1 + 1) W3.heap.size) (ParB s (W3.alloc (.cells #[.nilIface] 27)) (w.heap.size + 1 + 1) W3.heap.size)) := by
      refine hp1.mono ?_
      intro e W' hc
      cases hcr : coreR s with
      | ok v r =>
        rw [hcr] at hc
        obtain ⟨he, hp⟩ := hc
        exact ⟨hp.2.heap (by simp; rw [s3]; omega) HN4.out, .inl ⟨he, W', v, r, hcr, hp, GX.refl _ _⟩⟩
      | bad c n =>
        rw [hcr] at hc
        obtain ⟨⟨bf, he, hf⟩, hg⟩ := hc
        have hn := hg.heap (by simp; rw [s3]; omega) HN4.out
        exact ⟨hn, .inr ⟨bf, he, W', c, n, hcr, hf, hn, hg, GX.refl _ _⟩⟩
    refine (try_any 43 _ (enters_of Tryz.func43 (by kernel_rfl) rfl) _ _ W3 ?_ ?_ htr).mono ?_
    · rintro X Y ⟨W', v, r, h1, h2, h3⟩ hg
      exact ⟨W', v, r, h1, h2, h3.trans hg⟩
    · rintro bf X Y ⟨W', c, n, h1, h2, h3, h4, h5⟩ hg
      exact ⟨W', c, n, h1, h2, h3, h4, h5.trans hg⟩
    intro e W5 hT
    clear hp1 htr
    have HPr := Lib.hid (parse_core hl2)
    have hz4 := HZ4.out
    rcases hT with ⟨rfl, hA⟩ | ⟨bf, rfl, hB⟩
    · obtain ⟨v, r, vn, vk, f1, f2, f3, f4⟩ := hA.f (by omega) (by omega)
      have HF1 := Lib.hid f1
      have HF2 := Lib.hid f2
      have HF3 := Lib.hid f3
      have HF4 := Lib.hid f4
      have HR5 : Hid (W5.heap[w.heap.size + 1]? = some (.cells zeroC.toArray 46 (0, 0))) := Lib.hid (f4.heap (by simp; omega) (HQ4.out.block HRv.out))
      have HIn : Hid ((Tryz.prog.info? 46).map (·.size) = some (cellJ v vn vk).toArray.size) := Lib.hid (info_sz v vn vk)
      have HOne := Lib.hid (cellJ_one (j := v) (jo_form f3).1 (jo_form f3).2)
      clear f1 f2 f3 f4 hA hz4 s3
      go_upto_region 7 with (fail)
      iterate 1 go_step
      refine wpList_load_row rfl 46 (.tmp 4) rfl (w.heap.size + 1 + 1) rfl 46 (cellJ v vn vk).toArray (0, 0) _ HF2.out Tryz.underlying46 rfl HIn.out ?_
      simp only [Act.put, List.setIfInBounds_toArray, List.set_cons_succ, List.set_cons_zero]
      refine wpList_store_row rfl 46 (.tmp 2) (.tmp 19) rfl (w.heap.size + 1) (cellJ v vn vk).toArray rfl rfl 46 _ HR5.out HIn.out rfl HOne.out ?_
      simp only [Act.put]
      have HX : Hid (ParseP s w (.returned (.tuple #[.agg (cellJ v vn vk).toArray, .nilIface])) (W5.setRow (w.heap.size + 1) (cellJ v vn vk).toArray)) := Lib.hid (by
        have hz4 := HZ4.out
        have hs3 := HS3.out
        have hsz : (W5.setRow (w.heap.size + 1) (cellJ v vn vk).toArray).heap.size = W5.heap.size := by simp [World.setRow]
        refine ⟨(((HF4.out.mono (S' := [w.heap.size + 1, w.heap.size + 1 + 1, W3.heap.size]) (by intro x hx; simp at hx ⊢; rcases hx with h | h <;> simp [h])).setRow (g := w.heap.size + 1) (by simp) _).toQ (HQ3.out.trans HQ4.out) (by intro k hk; simp at hk; omega)), ?_⟩
        rw [HPr.out, HF1.out]
        refine ⟨vn, vk, rfl, ?_⟩
        rw [hsz]
        refine (JO.frame v _ _ vn vk (fun k h1 h2 h3 => ?_) HF3.out).widen (by omega) (Nat.le_refl _)
        simp only [World.setRow, Array.getElem?_modify]
        rw [if_neg (by omega)])
      have HR0 := Lib.hid (setRow_at HR5.out (cellJ v vn vk).toArray)
      go_wp2_with fail
      exact bodyPost_ret (results_json (p := 2) (q := 3) rfl (by rfl) HR0.out) rfl HX.out
    · obtain ⟨c, n, f1, f2, f3⟩ := hB.f
      have HF1 := Lib.hid f1
      have HF2 := Lib.hid f2
      have HF3 := Lib.hid f3
      have HR5 : Hid (W5.heap[w.heap.size + 1]? = some (.cells zeroC.toArray 46 (0, 0))) := Lib.hid (f3.heap (by simp; omega) (HQ4.out.block HRv.out))
      clear f1 f2 f3 hB hz4 s3
      go_upto_region 6 with (fail)
      iterate 7 go_step
      refine wpList_store_row rfl 46 (.tmp 2) (.tmp 17) rfl (w.heap.size + 1) zeroC.toArray rfl rfl 46 _ HR5.out (info_sz zeroJ (.slice none 0 0) (.slice none 0 0)) rfl (cellJ_one (j := zeroJ) ⟨_, _, _, rfl⟩ ⟨_, _, _, rfl⟩) ?_
      simp only [Act.put]
      have HX : Hid (ParseP s w (.returned (.tuple #[.agg zeroC.toArray, .iface 32 (.pointer (some ⟨bf, 0, none⟩))])) (W5.setRow (w.heap.size + 1) zeroC.toArray)) := Lib.hid (by
        have hz4 := HZ4.out
        have hs3 := HS3.out
        refine ⟨((HF3.out.mono (S' := [w.heap.size + 1, w.heap.size + 1 + 1, W3.heap.size]) (by intro x hx; simp at hx ⊢; rcases hx with h | h <;> simp [h])).setRow (g := w.heap.size + 1) (by simp) _).toQ (HQ3.out.trans HQ4.out) (by intro k hk; simp at hk; omega), ?_⟩
        rw [HPr.out, HF1.out]
        refine ⟨bf, rfl, ?_⟩
        have hne : w.heap.size + 1 ≠ bf := fun e => by
          have h1 := HF2.out
          unfold FaultJ at h1
          rw [← e, HR5.out] at h1
          injection h1 with h1
          injection h1 with h1 _ _
          cases h1
        unfold FaultJ
        simp only [World.setRow, Array.getElem?_modify]
        rw [if_neg hne]; exact HF2.out)
      have HR0 := Lib.hid (setRow_at HR5.out zeroC.toArray)
      go_wp2_with fail
      exact bodyPost_ret (results_json (j := zeroJ) (vn := .slice none 0 0) (vk := .slice none 0 0) (p := 2) (q := 3) rfl (by rfl) HR0.out) rfl HX.out
end Go.Proofs.YtlhhiiemojhjdaaGreatDoor
set_option linter.unusedVariables false
set_option linter.unusedSimpArgs false
namespace Go.Proofs.YtlhhiiemojhjdaaGreatDoor
open Go Go.RowKit
abbrev UT (w : World) : Prop := Lib.Utf8Tabs 0 1 w
def fIx (p : Txt → Bool) : List Txt → Nat → Int
  | [], _ => -1
  | x :: r, k => if p x then (k : Int) else fIx p r (k + 1)
theorem fIx_any (p : Txt → Bool) : ∀ (l : List Txt) (k : Nat), decide (0 ≤ fIx p l k) = l.any p
  | [], k => rfl
  | x :: r, k => by
    rw [fIx, List.any_cons]
    by_cases h : p x = true
    · rw [if_pos h, h]; simp
    · rw [if_neg h, fIx_any p r (k + 1)]; simp [h]
theorem gL_drop (l : List Txt) (k : Nat) (h : k < l.length) : l.drop k = gL l k :: l.drop (k + 1) := by
  rw [List.drop_eq_getElem_cons h]; simp [gL, List.getD, h]
theorem NsV.at {w : World} {v : Value} {ns : List Txt} (h : NsV w v ns) : ∃ A c, v = .slice A ns.length c ∧ ns.length ≤ c ∧ c ≤ 9223372036854775807 ∧ ∀ k, k < ns.length → ∃ g off, A = some ⟨g, off, none⟩ ∧ w.cell? ⟨g, off + k, none⟩ = some (.string ⟨(gL ns k).toArray⟩) := by
  obtain ⟨A, c, e, h1, h2, h3⟩ := h
  refine ⟨A, c, e, h1, h2, fun k hk => ?_⟩
  obtain ⟨g, off, e2, h4⟩ := h3 (by omega)
  exact ⟨g, off, e2, h4 k hk⟩
set_option maxRecDepth 100000 in
theorem index_func (f : Nat) (caps : Array Value) (hent : ∀ args w, (callFunc f args).run Tryz.prog w = .ok (.enter f args) w) (p : Txt → Bool) (ns : List Txt) (v : Value) (w : World) (hv : NsV w v ns)
    (hcall : ∀ k, k < ns.length → ∀ W, Q w W → Calls Tryz.prog f (#[.string ⟨(gL ns k).toArray⟩] ++ caps) W fun e w' => e = .returned (.bool (p (gL ns k))) ∧ Q W w') :
    Calls Tryz.prog 35 #[v, .func (.func f) #[] caps] w fun e w' => e = .returned (.int .i64 (fIx p ns 0)) ∧ Q w w' := by
  obtain ⟨A, c, rfl, hc1, hc2, hc3⟩ := hv.at
  obtain ⟨N, hN⟩ : ∃ N, fIx p ns 0 = N := ⟨_, rfl⟩
  rw [hN]
  have HN := Lib.hid hN
  have HC := Lib.hid hcall
  have HC3 := Lib.hid hc3
  have hnl : ns.length ≤ 9223372036854775807 := by omega
  clear hv hcall hc3 hN hc2
  go_enter Tryz.func35, Tryz.ntmps35
  go_wp2_with fail
  go_loopw [8] (fun i wx => ∃ k : Nat, k ≤ ns.length ∧ i = .int .i64 k ∧ Hid (Q w wx ∧ fIx p (ns.drop k) k = N)) (fun i _ => ns.length - (intOf i).toNat)
  case atStart => exact ⟨0, by omega, rfl, Lib.hid ⟨Q.refl w, HN.out⟩⟩
  case round =>
    obtain ⟨k, hk, rfl, HI⟩ := hrel
    rename World => wa
    by_cases hlt : k < ns.length
    · have hd : decide (k < ns.length) = true := by simpa using hlt
      obtain ⟨g, off, rfl, hcell⟩ := HC3.out k hlt
      have cx := HI.out.1.cell hcell
      have hE := HI.out.2
      rw [gL_drop ns k hlt, fIx] at hE
      have HCall := Lib.hid (HC.out k hlt wa HI.out.1)
      obtain ⟨x, hx⟩ : ∃ x, gL ns k = x := ⟨_, rfl⟩
      rw [hx] at cx HCall hE
      have HE := Lib.hid hE
      clear hcell hx hE
      by_cases hp : p x = true
      · have HE2 : Hid ((k : Int) = N) := Lib.hid (by have := HE.out; rw [if_pos hp] at this; exact this)
        rw [hp] at HCall
        clear HE hp
        go_wp2_with fail
        refine HCall.out.mono ?_
        rintro e w2 ⟨rfl, hq2⟩
        have HQ := Lib.hid (HI.out.1.trans hq2)
        clear hq2 cx
        go_wp2_with fail
        go_ret
        exact ⟨ret_int HE2.out, HQ.out⟩
      · have HE2 : Hid (fIx p (ns.drop (k + 1)) (k + 1) = N) := Lib.hid (by have := HE.out; rw [if_neg hp] at this; exact this)
        have hp2 : p x = false := by simpa using hp
        rw [hp2] at HCall
        clear HE hp hp2
        go_wp2_with fail
        refine HCall.out.mono ?_
        rintro e w2 ⟨rfl, hq2⟩
        have HQ : Hid (Q w w2 ∧ fIx p (ns.drop (k + 1)) (k + 1) = N) := Lib.hid ⟨HI.out.1.trans hq2, HE2.out⟩
        clear hq2 cx
        go_wp2_with fail
        go_roundw
        case rel => exact ⟨k + 1, by omega, by go_num, HQ⟩
        case measure => simp [intOf]; omega
    · have hd : decide (k < ns.length) = false := by simpa using hlt
      have HX : Hid ((-1 : Int) = N) := Lib.hid (by have := HI.out.2; rw [List.drop_of_length_le (by omega)] at this; exact this)
      have HQ := Lib.hid HI.out.1
      go_wp2_with fail
      go_ret
      exact ⟨ret_int HX.out, HQ.out⟩
theorem contains_func (f : Nat) (caps : Array Value) (hent : ∀ args w, (callFunc f args).run Tryz.prog w = .ok (.enter f args) w) (p : Txt → Bool) (ns : List Txt) (v : Value) (w : World) (hv : NsV w v ns)
    (hcall : ∀ k, k < ns.length → ∀ W, Q w W → Calls Tryz.prog f (#[.string ⟨(gL ns k).toArray⟩] ++ caps) W fun e w' => e = .returned (.bool (p (gL ns k))) ∧ Q W w') :
    Calls Tryz.prog 24 #[v, .func (.func f) #[] caps] w fun e w' => e = .returned (.bool (ns.any p)) ∧ Q w w' := by
  have HI := Lib.hid (index_func f caps hent p ns v w hv hcall)
  have HA := Lib.hid (fIx_any p ns 0)
  obtain ⟨N, hN⟩ : ∃ N, fIx p ns 0 = N := ⟨_, rfl⟩
  rw [hN] at HI HA
  obtain ⟨A, c, rfl, _⟩ := hv.at
  clear hN hv hcall hent
  go_enter Tryz.func24, Tryz.ntmps24
  go_wp2_with fail
  refine HI.out.mono ?_
  rintro e w2 ⟨rfl, hq2⟩
  have HQ := Lib.hid hq2
  clear hq2
  go_wp2_with fail
  go_ret
  exact ⟨by rw [HA.out]; rfl, HQ.out⟩
end Go.Proofs.YtlhhiiemojhjdaaGreatDoor
set_option linter.unusedVariables false
namespace Go.Proofs.YtlhhiiemojhjdaaGreatDoor
open Go Go.RowKit
def laidJ : List (String × DataW Unit) := [("unicode/utf8.acceptRanges", Rows.laid_unicode_utf8_acceptRanges), ("unicode/utf8.first", Rows.laid_unicode_utf8_first)]
set_option maxRecDepth 100000 in
theorem pinned_firstJ : Go.Pinned.utf8First = Lib.firstData := by kernel_rfl
theorem accept_dataJ : (Rows.laid_unicode_utf8_acceptRanges : DataW Unit) = Lib.acceptData := by kernel_rfl
theorem laid_metJ (os : Os) (args : Array Value) : laidMet Tryz.prog laidJ ((World.laidAll Tryz.prog os laidJ).forCall (fun _ _ => 0) ⟨#[], args, []⟩).memory := laidMet_laidAll _ (by kernel_rfl) (by kernel_rfl)
end Go.Proofs.YtlhhiiemojhjdaaGreatDoor
set_option linter.unusedVariables false
set_option linter.unusedSimpArgs false
namespace Go.Proofs.YtlhhiiemojhjdaaGreatDoor
open Go Go.RowKit
mutual
def bigJ (N : Nat) : JsonD → Prop
  | .mk _ t ns ks => t.length ≤ N ∧ (∀ n ∈ ns, n.length ≤ N) ∧ bigKs N ks
def bigKs (N : Nat) : List JsonD → Prop
  | [] => True
  | j :: r => bigJ N j ∧ bigKs N r
end
theorem bigKs_iff (N : Nat) : ∀ (ks : List JsonD), bigKs N ks ↔ ∀ j ∈ ks, bigJ N j
  | [] => by rw [bigKs]; simp
  | j :: r => by rw [bigKs, bigKs_iff N r]; simp
mutual
theorem bigJ_mono {N M : Nat} (h : N ≤ M) : ∀ (j : JsonD), bigJ N j → bigJ M j
  | .mk k t ns ks, hb => by
    rw [bigJ] at hb ⊢
    exact ⟨Nat.le_trans hb.1 h, fun n hn => Nat.le_trans (hb.2.1 n hn) h, bigKs_mono h ks hb.2.2⟩
theorem bigKs_mono {N M : Nat} (h : N ≤ M) : ∀ (ks : List JsonD), bigKs N ks → bigKs M ks
  | [], _ => by rw [bigKs]; trivial
  | j :: r, hb => by
    rw [bigKs] at hb ⊢
    exact ⟨bigJ_mono h j hb.1, bigKs_mono h r hb.2⟩
end
theorem esc_lenJ {l : List UInt8} {c : List UInt8} {r : List UInt8} (h : escR l = .ok c r) : c.length ≤ 4 := by
  match l, h with
  | [], h => cases h
  | [a], h => cases h
  | a :: b :: t, h =>
    rw [escR] at h
    split at h
    · cases hF : fourR (a :: b :: t).length 4 0 t with
      | bad c n => rw [hF] at h; cases h
      | ok n u =>
        rw [hF] at h
        have h : codeR (a :: b :: t).length n u = .ok c r := h
        unfold codeR at h
        split at h
        · cases h
        · split at h
          · cases hU : unitR (a :: b :: t).length u with
            | bad c n => rw [hU] at h; cases h
            | ok d v =>
              rw [hU] at h
              have h : (if 56320 ≤ d ∧ d ≤ 57343 then PR.ok (Lib.encodeRune ((65536 + 1024 * (n - 55296) + (d - 56320) : Nat) : Int)) v else PR.bad 54 (a :: b :: t).length) = .ok c r := h
              split at h
              · injection h with h3 h4
                rw [← h3]; exact (enc_len _).2
              · cases h
          · injection h with h3 h4
            rw [← h3]; exact (enc_len _).2
    · cases hS : simpleE b with
      | none => rw [hS] at h; cases h
      | some d =>
        rw [hS] at h
        injection h with h3 h4
        rw [← h3]; simp
theorem txtR_len : ∀ (n : Nat) (l acc s r : List UInt8), txtR n l acc = .ok s r → s.length ≤ acc.length + 4 * n
  | 0, l, acc, s, r, h => by rw [txtR] at h; cases h
  | n + 1, [], acc, s, r, h => by rw [txtR] at h; cases h
  | n + 1, b :: t, acc, s, r, h => by
    rw [txtR] at h
    split at h
    · injection h with h1 h2; rw [← h1]; omega
    · split at h
      · cases hE : escR (b :: t) with
        | bad c m => rw [hE] at h; cases h
        | ok c u =>
          rw [hE] at h
          have := txtR_len n u (acc ++ c) s r h
          have := esc_lenJ hE
          rw [List.length_append] at *
          omega
      · split at h
        · cases h
        · have := txtR_len n _ _ s r h
          have h4 := (dec_k (b :: t) (by simp)).2.1
          have hu : utfN (b :: t) ≤ 4 := by
            unfold utfN
            split
            · omega
            · split <;> omega
          rw [List.length_append, List.length_take] at this
          omega
theorem textR_len {l s r : List UInt8} (h : textR l = .ok s r) : s.length ≤ 4 * l.length := by
  obtain ⟨_, t, h1, h2⟩ := bind_ok h
  have h3 := takeR_eats 34 l () t h1
  have := txtR_len _ _ _ _ _ h2
  simp at this
  omega
theorem itemsR_all {α : Type} {one : List UInt8 → PR α} {P : α → Prop} (N : Nat) (hg : ∀ l, (one l).good l) (h1 : ∀ l v r, l.length ≤ N → one l = .ok v r → P v) (c : UInt8) : ∀ (n : Nat) (l : List UInt8) (acc vs : List α) (r : List UInt8),
    l.length ≤ N → (∀ v ∈ acc, P v) → itemsR one c n l acc = .ok vs r → ∀ v ∈ vs, P v
  | 0, l, acc, vs, r, _, _, h => by rw [itemsR] at h; cases h
  | n + 1, l, acc, vs, r, hl, ha, h => by
    rw [itemsR] at h
    obtain ⟨v, q, e1, h2⟩ := bind_ok h
    have hgd := hg l
    rw [e1] at hgd
    have hq := List.IsSuffix.length_le hgd
    have hv := h1 l v q hl e1
    have ha2 : ∀ x ∈ acc ++ [v], P x := fun x hx => by
      rcases List.mem_append.1 hx with hx | hx
      · exact ha x hx
      · rw [List.mem_singleton.1 hx]; exact hv
    split at h2
    · injection h2 with h3 _
      rw [← h3]; exact ha2
    · obtain ⟨_, u, e2, h3⟩ := bind_ok h2
      have hgt := takeR_good 44 (skipJ q)
      rw [e2] at hgt
      have h4 := List.IsSuffix.length_le hgt
      have h5 := skip_len q
      have h6 := skip_len u
      exact itemsR_all N hg h1 c n _ _ _ _ (by omega) ha2 h3
theorem rowR_all {α : Type} {one : List UInt8 → PR α} {P : α → Prop} (N : Nat) (hg : ∀ l, (one l).good l) (h1 : ∀ l v r, l.length ≤ N → one l = .ok v r → P v) (c : UInt8) (l : List UInt8) (vs : List α) (r : List UInt8) (hl : l.length ≤ N) (h : rowR one c l = .ok vs r) : ∀ v ∈ vs, P v := by
  unfold rowR at h
  split at h
  · injection h with h _
    rw [← h]; intro v hv; cases hv
  · have := skip_len l
    exact itemsR_all N hg h1 c _ _ _ _ _ (by omega) (fun v hv => by cases hv) h
theorem atomR_big {N : Nat} {l r : List UInt8} {v : JsonD} (hl : l.length ≤ N) (h : atomR l = .ok v r) : bigJ (4 * N) v := by
  unfold atomR at h
  have hc : ∀ (w : List UInt8) (k : Int), constR w k l = .ok v r → bigJ (4 * N) v := fun w k h => by
    rw [constR_right h, bigJ, bigKs]; simp
  split at h
  · obtain ⟨s, t, e1, h2⟩ := bind_ok h
    injection h2 with h2 _
    have := textR_len e1
    rw [← h2, bigJ, bigKs]
    refine ⟨by omega, by simp, trivial⟩
  · split at h
    · exact hc _ _ h
    · split at h
      · exact hc _ _ h
      · split at h
        · exact hc _ _ h
        · split at h
          · obtain ⟨s, t, e1, h2⟩ := bind_ok h
            injection h2 with h2 _
            rw [← h2, bigJ, bigKs]
            refine ⟨by rw [List.length_take]; omega, by simp, trivial⟩
          · cases h
theorem pairR_big {one : List UInt8 → PR JsonD} {N : Nat} (h1 : ∀ l v r, l.length ≤ N → one l = .ok v r → bigJ (4 * N) v) (l : List UInt8) (v : List UInt8 × JsonD) (r : List UInt8) (hl : l.length ≤ N) (h : pairR one l = .ok v r) : v.1.length ≤ 4 * N ∧ bigJ (4 * N) v.2 := by
  unfold pairR at h
  obtain ⟨s, t, e1, h2⟩ := bind_ok h
  obtain ⟨_, u, e2, h3⟩ := bind_ok h2
  obtain ⟨j, q, e3, h4⟩ := bind_ok h3
  injection h4 with h4 _
  have g1 := textR_good l
  rw [e1] at g1
  have g1 := List.IsSuffix.length_le g1
  have g2 := takeR_good 58 (skipJ t)
  rw [e2] at g2
  have g2 := List.IsSuffix.length_le g2
  have g3 := skip_len t
  have g4 := skip_len u
  have := textR_len e1
  rw [← h4]
  exact ⟨by show s.length ≤ _; omega, h1 _ _ _ (by omega) e3⟩
theorem valR_big : ∀ (d : Nat) (N : Nat) (l : List UInt8) (v : JsonD) (r : List UInt8), l.length ≤ N → valR d l = .ok v r → bigJ (4 * N) v
  | 0, N, l, v, r, hl, h => by
    unfold valR at h
    split at h
    · cases h
    · exact atomR_big hl h
  | d + 1, N, l, v, r, hl, h => by
    unfold valR at h
    have htl : l.tail.length ≤ N := by rw [List.length_tail]; omega
    split at h
    · obtain ⟨ks, t, e1, h2⟩ := bind_ok h
      injection h2 with h2 _
      have := rowR_all N (valR_good d) (fun l v r hl h => valR_big d N l v r hl h) 93 _ _ _ htl e1
      rw [← h2, bigJ, bigKs_iff]
      exact ⟨by simp, by simp, this⟩
    · split at h
      · obtain ⟨ks, t, e1, h2⟩ := bind_ok h
        injection h2 with h2 _
        have := rowR_all (P := fun v => v.1.length ≤ 4 * N ∧ bigJ (4 * N) v.2) N (fun l => pairR_good (valR_good d) l) (fun l v r hl h => pairR_big (fun l v r hl h => valR_big d N l v r hl h) l v r hl h) 125 _ _ _ htl e1
        rw [← h2, bigJ, bigKs_iff]
        refine ⟨by simp, fun n hn => ?_, fun j hj => ?_⟩
        · obtain ⟨x, hx, rfl⟩ := List.mem_map.1 hn; exact (this x hx).1
        · obtain ⟨x, hx, rfl⟩ := List.mem_map.1 hj; exact (this x hx).2
      · exact atomR_big hl h
theorem parse_big {s : List UInt8} {v : JsonD} (h : parseJ s = .ok v) : bigJ 32000 v := by
  unfold parseJ at h
  split at h
  · cases h
  · next hl =>
    cases hv : valR 20 (skipJ s) with
    | bad e n => rw [hv] at h; cases h
    | ok w t =>
      rw [hv] at h
      have h : (if skipJ t = [] then Except.ok w else Except.error (54, s.length - (skipJ t).length)) = .ok v := h
      split at h
      · injection h with h
        have := skip_len s
        rw [← h]; exact valR_big 20 8000 _ _ _ (by omega) hv
      · cases h
end Go.Proofs.YtlhhiiemojhjdaaGreatDoor
set_option linter.unusedVariables false
set_option linter.unusedSimpArgs false
namespace Go.Proofs.YtlhhiiemojhjdaaGreatDoor
open Go Go.RowKit
def rtB (j : JsonD) (d : Nat) (L : Int) : Bool := wfJ j d && decide ((cntJ j : Int) ≤ L)
theorem cnt_pos (j : JsonD) : 1 ≤ cntJ j := by
  obtain ⟨k, t, ns, ks⟩ := j
  rw [cntJ]; omega
theorem jv_form {w : World} {k : Int} {t : Txt} {ns : List Txt} {ks : List JsonD} {vn vk : Value} (h : JV w (.mk k t ns ks) vn vk) : (∃ A c, vn = .slice A ns.length c ∧ ns.length ≤ c ∧ c ≤ 9223372036854775807) ∧ ∃ A c, vk = .slice A ks.length c ∧ ks.length ≤ c ∧ c ≤ 9223372036854775807 := by
  obtain ⟨B, c, e, h2, h3, _⟩ := h.kid
  rw [JV] at h
  obtain ⟨⟨A, c', e', h1, h4, _⟩, _⟩ := h
  exact ⟨⟨A, c', e', h1, h4⟩, B, c, e, h2, h3⟩
theorem gK_split (ks : List JsonD) (i : Nat) (h : i < ks.length) : ks = ks.take i ++ gK ks i :: ks.drop (i + 1) := by
  rw [gK_get ks i h]
  have := List.take_append_drop i ks
  rw [List.drop_eq_getElem_cons h] at this
  exact this.symm
theorem gK_take (ks : List JsonD) (i : Nat) (h : i < ks.length) : ks.take (i + 1) = ks.take i ++ [gK ks i] := by
  rw [gK_get ks i h, List.take_add_one, List.getElem?_eq_getElem h]; rfl
theorem bigKs_gK {N : Nat} {ks : List JsonD} (h : bigKs N ks) {i : Nat} (hi : i < ks.length) : bigJ N (gK ks i) := by
  rw [gK_get ks i hi]; exact (bigKs_iff N ks).1 h _ (List.getElem_mem hi)
theorem jv_slices {w : World} {j : JsonD} {vn vk : Value} (h : JV w j vn vk) : (∃ A n c, vn = .slice A n c) ∧ ∃ A n c, vk = .slice A n c := by
  obtain ⟨k, t, ns, ks⟩ := j
  obtain ⟨⟨A, c, e, _⟩, A', c', e', _⟩ := jv_form h
  exact ⟨⟨_, _, _, e⟩, _, _, _, e'⟩
end Go.Proofs.YtlhhiiemojhjdaaGreatDoor
set_option linter.unusedVariables false
set_option linter.unusedSimpArgs false
namespace Go.Proofs.YtlhhiiemojhjdaaGreatDoor
open Go Go.RowKit
theorem cnt_gK {ks : List JsonD} {i : Nat} (h : i < ks.length) : cntJ (gK ks i) ≤ cntKs ks := by
  have hs := gK_split ks i h
  have : cntKs ks = cntKs (ks.take i) + (cntJ (gK ks i) + cntKs (ks.drop (i + 1))) := by
    conv => lhs; rw [hs]
    rw [cntKs_app, cntKs]
  omega
end Go.Proofs.YtlhhiiemojhjdaaGreatDoor
set_option linter.unusedVariables false
set_option linter.unusedSimpArgs false
namespace Go.Proofs.YtlhhiiemojhjdaaGreatDoor
open Go Go.RowKit
end Go.Proofs.YtlhhiiemojhjdaaGreatDoor
set_option linter.unusedVariables false
set_option linter.unusedSimpArgs false
namespace Go.Proofs.YtlhhiiemojhjdaaGreatDoor
open Go Go.RowKit
structure KidAt (w : World) (ks : List JsonD) (A : Option Addr) (i g off : Nat) (vn vk : Value) : Prop where
  a : A = some ⟨g, off, none⟩
  rg : w.rangeAt g (off + i * 4) (cellJ (gK ks i) vn vk)
  jv : JV w (gK ks i) vn vk
theorem JV.kidAt {w : World} {k : Int} {t : Txt} {ns : List Txt} {ks : List JsonD} {vn vk : Value} (h : JV w (.mk k t ns ks) vn vk) : ∃ A c, vk = .slice A ks.length c ∧ ks.length ≤ c ∧ c ≤ 9223372036854775807 ∧ ∀ i, i < ks.length → ∃ g off un uk, KidAt w ks A i g off un uk := by
  obtain ⟨A, c, e, h1, h2, h3⟩ := h.kid
  refine ⟨A, c, e, h1, h2, fun i hi => ?_⟩
  obtain ⟨g, off, un, uk, e1, y0, y1, y2, y3, yv⟩ := h3 i hi
  refine ⟨g, off, un, uk, e1, fun j u hu => ?_, yv⟩
  match j, hu with
  | 0, hu => injection hu with hu; subst hu; exact y0
  | 1, hu => injection hu with hu; subst hu; exact y1
  | 2, hu => injection hu with hu; subst hu; exact y2
  | 3, hu => injection hu with hu; subst hu; exact y3
  | n + 4, hu => simp [cellJ, jsonC] at hu
theorem KidAt.q {w w' : World} {ks : List JsonD} {A : Option Addr} {i g off : Nat} {vn vk : Value} (h : KidAt w ks A i g off vn vk) (hq : Q w w') : KidAt w' ks A i g off vn vk :=
  ⟨h.a, fun j u hu => hq.cell (h.rg j u hu), h.jv.q hq⟩
theorem KidAt.one {w : World} {ks : List JsonD} {A : Option Addr} {i g off : Nat} {vn vk : Value} (h : KidAt w ks A i g off vn vk) : (cellJ (gK ks i) vn vk).toArray.all (·.oneCell') = true := by
  obtain ⟨⟨_, _, _, f1⟩, ⟨_, _, _, f2⟩⟩ := jv_slices h.jv
  exact cellJ_one ⟨_, _, _, f1⟩ ⟨_, _, _, f2⟩
end Go.Proofs.YtlhhiiemojhjdaaGreatDoor
set_option linter.unusedVariables false
set_option linter.unusedSimpArgs false
namespace Go.Proofs.YtlhhiiemojhjdaaGreatDoor
open Go Go.RowKit
end Go.Proofs.YtlhhiiemojhjdaaGreatDoor
set_option linter.unusedVariables false
namespace Go.Proofs.YtlhhiiemojhjdaaGreatDoor
open Go Go.RowKit
theorem wp_plan_A {P : Program} {id : Nat} {R : Exit → Act → World → Prop} {a : Act} {w : World} {l : List Oper} (S : World → Prop) (hS : S w.drew) (ps : List (List Nat × List Nat)) (hm : P.follows .mixedOrders = true)
    (hB : (Region.noSelect l.toArray && planB l.toArray ps (Array.replicate l.length false) && decide (planN ps = l.length)) = true)
    (hQ : ∀ c a d v w, R (.panic c) (Act.put a d v) w → R (.panic c) a w)
    (h : wpPlan P l.toArray R (fun w' => ∃ m : SWA S, w' = m.val) ps a w.drew) : (Code.region id l.toArray true).wp P R a w := by
  simp only [Bool.and_eq_true, decide_eq_true_eq] at hB
  refine wp_region_held (S := fun w' => ∃ m : SWA S, w' = m.val) hm ?_
  have := any_plan hB.1.1 hQ ps (Array.replicate l.length false) a w.drew ⟨⟨w.drew, hS⟩, rfl⟩ hB.1.2 h
  rw [hB.2] at this
  exact this
end Go.Proofs.YtlhhiiemojhjdaaGreatDoor
set_option linter.unusedVariables false
set_option linter.unusedSimpArgs false
namespace Go.Proofs.YtlhhiiemojhjdaaGreatDoor
open Go Go.RowKit
theorem row_form' {w : World} {base : Nat} {e : TypeId} {size : Nat} {v : Value} {n : Nat} {xs : List Value} (h : w.ownsRow base e size v n xs) : ∃ A c, v = .slice A n c := by
  rcases h.2 with ⟨hv, h0⟩ | ⟨g, cap, _, hv, _⟩
  · exact ⟨none, 0, by rw [hv, h0]⟩
  · exact ⟨_, _, hv⟩
theorem JV.cells {w : World} {k : Int} {t : Txt} {ns : List Txt} {ks : List JsonD} {vn vk : Value} (h : JV w (.mk k t ns ks) vn vk) : ∃ A c cells, vk = .slice A ks.length c ∧ JK w ks cells ∧ cells.length = ks.length * 4 ∧ (A = none → ks = []) ∧ ∀ ad, A = some ad → ∀ j u, cells[j]? = some u → w.cell? (ad.add j) = some u := by
  rw [JV] at h
  obtain ⟨_, A, c, e, h1, h2, h3⟩ := h
  by_cases h0 : ks = []
  · subst h0
    exact ⟨A, c, [], e, by rw [JK], rfl, fun _ => rfl, fun ad e j u hu => by cases hu⟩
  · obtain ⟨g, off, cells, e2, h4, h5⟩ := h3 (List.length_pos_iff.2 h0)
    subst e2
    refine ⟨_, c, cells, e, h5, ?_, fun e => (by cases e), fun ad e j u hu => ?_⟩
    · clear e h1 h2 h3 h0 h4
      induction ks generalizing cells with
      | nil => rw [JK] at h5; rw [h5]; rfl
      | cons j r ih =>
        rw [JK] at h5
        obtain ⟨x, y, rest, e, _, h6⟩ := h5
        rw [e, List.length_append, ih rest h6]
        show (jsonC _ _ x y).length + _ = _
        rw [jsonC_len, List.length_cons]; omega
    · injection e with e
      rw [← e, add_off]; exact h4 j u hu
theorem JK.one {w : World} : ∀ {ks : List JsonD} {cells : List Value}, JK w ks cells → ∀ u ∈ cells, u.oneCell' = true
  | [], cells, h, u, hu => by rw [JK] at h; rw [h] at hu; cases hu
  | j :: r, cells, h, u, hu => by
    rw [JK] at h
    obtain ⟨x, y, rest, e, h1, h2⟩ := h
    rw [e] at hu
    rcases List.mem_append.1 hu with hu | hu
    · obtain ⟨⟨_, _, _, rfl⟩, ⟨_, _, _, rfl⟩⟩ := jv_slices h1
      simp [cellJ, jsonC] at hu
      rcases hu with rfl | rfl | rfl | rfl <;> rfl
    · exact JK.one h2 u hu
def ixN (x : Txt) : List Txt → Nat → Int
  | [], _ => -1
  | y :: r, k => if x = y then (k : Int) else ixN x r (k + 1)
set_option maxRecDepth 100000 in
theorem index_name (ns : List Txt) (x : Txt) (w : World) (vn : Value) (h : NsV w vn ns) : Calls Tryz.prog 67 #[vn, .string ⟨x.toArray⟩] w fun e w' => e = .returned (.int .i64 (ixN x ns 0)) ∧ Q w w' := by
  obtain ⟨A, c, rfl, hc1, hc2, hc3⟩ := h.at
  obtain ⟨N, hN⟩ : ∃ N, ixN x ns 0 = N := ⟨_, rfl⟩
  rw [hN]
  have HN := Lib.hid hN
  have HC3 := Lib.hid hc3
  have hnl : ns.length ≤ 9223372036854775807 := by omega
  clear h hc3 hN hc2
  go_enter Tryz.func67, Tryz.ntmps67
  go_wp2_with fail
  go_loopw [8] (fun i wx => ∃ k : Nat, k ≤ ns.length ∧ i = .int .i64 k ∧ Hid (Q w wx ∧ ixN x (ns.drop k) k = N)) (fun i _ => ns.length - (intOf i).toNat)
  case atStart => exact ⟨0, by omega, rfl, Lib.hid ⟨Q.refl w, HN.out⟩⟩
  case round =>
    obtain ⟨k, hk, rfl, HI⟩ := hrel
    rename World => wa
    by_cases hlt : k < ns.length
    · have hd : decide (k < ns.length) = true := by simpa using hlt
      obtain ⟨g, off, rfl, hcell⟩ := HC3.out k hlt
      have cx := HI.out.1.cell hcell
      have hE := HI.out.2
      rw [gL_drop ns k hlt, ixN] at hE
      obtain ⟨y, hy⟩ : ∃ y, gL ns k = y := ⟨_, rfl⟩
      rw [hy] at cx hE
      have HE := Lib.hid hE
      clear hcell hy hE
      by_cases hp : x = y
      · have g2 : (x == y) = true := by simpa using hp
        have HE2 : Hid ((k : Int) = N) := Lib.hid (by have := HE.out; rw [if_pos hp] at this; exact this)
        have HQ := Lib.hid HI.out.1
        clear HE hp
        go_wp2_with fail
        go_ret
        exact ⟨ret_int HE2.out, HQ.out⟩
      · have g2 : (x == y) = false := by simpa using hp
        have HE2 : Hid (Q w wa ∧ ixN x (ns.drop (k + 1)) (k + 1) = N) := Lib.hid ⟨HI.out.1, by have := HE.out; rw [if_neg hp] at this; exact this⟩
        clear HE hp
        go_wp2_with fail
        go_roundw
        case rel => exact ⟨k + 1, by omega, by go_num, HE2⟩
        case measure => simp [intOf]; omega
    · have hd : decide (k < ns.length) = false := by simpa using hlt
      have HX : Hid ((-1 : Int) = N) := Lib.hid (by have := HI.out.2; rw [List.drop_of_length_le (by omega)] at this; exact this)
      have HQ := Lib.hid HI.out.1
      go_wp2_with fail
      go_ret
      exact ⟨ret_int HX.out, HQ.out⟩
end Go.Proofs.YtlhhiiemojhjdaaGreatDoor
set_option linter.unusedVariables false
set_option linter.unusedSimpArgs false
namespace Go.Proofs.YtlhhiiemojhjdaaGreatDoor
open Go Go.RowKit
structure TwS (k : Int) (t : Txt) (ns : List Txt) (ks : List JsonD) (w : World) (B : Nat) (un : Value) (g cap i : Nat) (dn rest : List Value) (W : World) : Prop where
  q : Q w W
  sz : w.heap.size = B
  box : W.heap[B]? = some (.cells (cellJ (.mk k t ns ks) un (.slice (some ⟨g, 0, none⟩) ks.length cap)).toArray 46 (0, 0))
  res : W.heap[B + 1]? = some (.cells zeroC.toArray 46 (0, 0))
  nrow : W.ownsRow (B + 2) 9 1 un ns.length (ns.map strV)
  lo : B + 2 ≤ g
  cap1 : ks.length ≤ cap
  cap2 : cap ≤ maxLen
  row : ∃ cur, W.heap[g]? = some (.cells cur 46 (0, 0)) ∧ cur.size = cap * 4 ∧ cur.toList.take (ks.length * 4) = dn ++ rest
  dlen : dn.length = i * 4
  rlen : rest.length = (ks.length - i) * 4
  kids : JOK W (fun b => un.ownBlock = some b ∨ b = g) (ks.take i) (B + 2) W.heap.size dn
  jk : JK w (ks.drop i) rest
theorem gK_dropJ (ks : List JsonD) (i : Nat) (h : i < ks.length) : ks.drop i = gK ks i :: ks.drop (i + 1) := by
  rw [gK_get ks i h]; exact List.drop_eq_getElem_cons h
theorem rlen_next {n i : Nat} {rest a b : List Value} (h : rest.length = (n - i) * 4) (hr : rest = a ++ b) (ha : a.length = 4) (hi : i < n) : b.length = (n - (i + 1)) * 4 := by
  rw [hr, List.length_append, ha] at h
  omega
theorem take_mid {n i : Nat} {a b : List Value} {c : List Value} (ha : a.length = i * 4) (hb : b.length = 4) (hi : i < n) : List.take (n * 4) (a ++ b ++ c) = a ++ b ++ c.take ((n - (i + 1)) * 4) := by
  have hl : (a ++ b).length = i * 4 + 4 := by rw [List.length_append, ha, hb]
  rw [List.take_append, List.take_of_length_le (by rw [hl]; omega), hl]
  congr 2
  omega
theorem TwS.next {k : Int} {t : Txt} {ns : List Txt} {ks : List JsonD} {w : World} {B : Nat} {un : Value} {g cap i : Nat} {dn rest : List Value} {W X : World} {l : Nat} {vn vk xn xk : Value} {rest2 : List Value} (h : TwS k t ns ks w B un g cap i dn rest W) (hi : i < ks.length)
    (hr : rest = cellJ (gK ks i) vn vk ++ rest2) (hq : Q W X) (hl : W.heap.size ≤ l) (hj : JO X (gK ks i) l X.heap.size xn xk) (hk2 : JK w (ks.drop (i + 1)) rest2) :
    TwS k t ns ks w B un g cap (i + 1) (dn ++ cellJ (gK ks i) xn xk) rest2 (X.setCells g (i * 4) (cellJ (gK ks i) xn xk)) := by
  obtain ⟨cur, c1, c2, c3⟩ := h.row
  have c1x := hq.block c1
  have hgl := lt_of_heap c1
  have hlo := h.lo
  have hgb := setCells_gb g (cellJ (gK ks i) xn xk) (i * 4) X
  have hvs : (cellJ (gK ks i) xn xk).length = 4 := jsonC_len _ _ _ _
  have hv2 : (cellJ (gK ks i) vn vk).length = 4 := jsonC_len _ _ _ _
  have hcap := h.cap1
  have hcells := heap_setCells g 46 (0, 0) (cellJ (gK ks i) xn xk) (i * 4) X cur c1x (by rw [hvs, c2]; omega)
  have hf : ∀ b, b < X.heap.size → b ≠ g → (X.setCells g (i * 4) (cellJ (gK ks i) xn xk)).heap[b]? = X.heap[b]? := fun b h1 h2 => hgb.block b h1 (by simpa using Ne.symm h2 |> fun e => fun e' => h2 e')
  have hbl := lt_of_heap h.box
  have hrl := lt_of_heap h.res
  have hsx := hq.size
  have hsf := hgb.size
  have hnb : ∀ b, un.ownBlock = some b → B + 2 ≤ b ∧ b < W.heap.size := fun b e => ownsRow_base h.nrow e
  have hng : ∀ b, un.ownBlock = some b → b ≠ g := fun b e e2 => by
    subst e2
    rcases h.nrow.2 with ⟨e3, _⟩ | ⟨g1, cp, cu, e3, _, e4, _⟩
    · rw [e3] at e; cases e
    · rw [e3] at e
      simp [Value.ownBlock] at e
      subst e
      rw [c1] at e4
      injection e4 with e4
      injection e4 with _ e4 _
      exact absurd e4 (by decide)
  refine ⟨?_, h.sz, ?_, ?_, ?_, h.lo, h.cap1, h.cap2, ⟨_, hcells, ?_, ?_⟩, ?_, ?_, ?_, hk2⟩
  · have hws := h.sz
    exact (h.q.trans hq).below (Below.grown (Below.refl _ _) hgb (by have := h.q.size; omega) (fun b hb => by simp at hb; omega))
  · rw [hf B (by omega) (by omega)]; exact hq.block h.box
  · rw [hf (B + 1) (by omega) (by omega)]; exact hq.block h.res
  · exact ownsRow_frame (ownsRow_frame h.nrow (fun b e h1 => Below.block hq b h1)) (fun b e h1 => hf b h1 (hng b e))
  · simp [hvs]; omega
  · have e1 : cur.toList.take (i * 4) = dn := by
      have := congrArg (List.take (i * 4)) c3
      rw [List.take_take, Nat.min_eq_left (by omega), List.take_left' h.dlen] at this
      exact this
    have e2 : (cur.toList.drop (i * 4 + 4)).take ((ks.length - (i + 1)) * 4) = rest2 := by
      have := congrArg (List.drop (i * 4 + 4)) c3
      rw [List.drop_take, hr, ← List.append_assoc, List.drop_left' (by rw [List.length_append, h.dlen, hv2])] at this
      rw [← this]; congr 1; omega
    show List.take (ks.length * 4) (cur.toList.take (i * 4) ++ cellJ (gK ks i) xn xk ++ cur.toList.drop (i * 4 + (cellJ (gK ks i) xn xk).length)) = dn ++ cellJ (gK ks i) xn xk ++ rest2
    rw [e1, hvs, ← e2]
    exact take_mid h.dlen hvs hi
  · rw [List.length_append, h.dlen, hvs, Nat.add_mul]
  · exact rlen_next h.rlen hr hv2 hi
  · rw [gK_take ks i hi]
    have hk1 : JOK X (fun b => un.ownBlock = some b ∨ b = g) (ks.take i) (B + 2) W.heap.size dn := JOK.frame _ _ _ _ _ (fun b _ _ h3 => Below.block hq b h3) h.kids
    have hk3 : JOK (X.setCells g (i * 4) (cellJ (gK ks i) xn xk)) (fun b => un.ownBlock = some b ∨ b = g) (ks.take i) (B + 2) W.heap.size dn := JOK.frameX (fun b _ _ hx h3 => hf b h3 (fun e => hx (.inr e))) hk1
    have hj3 : JO (X.setCells g (i * 4) (cellJ (gK ks i) xn xk)) (gK ks i) l X.heap.size xn xk := JO.frame _ _ _ _ _ (fun b h1 _ h3 => hf b h3 (by omega)) hj
    refine JOK.snoc hj3 hsf (fun b hb => ?_) (hk3.widen (Nat.le_refl _) hl (fun b hb => .inl hb)) (by have := h.q.size; omega)
    left
    rcases hb with hb | hb
    · have := (hnb b hb).2; omega
    · omega
theorem TwS.done {k : Int} {t : Txt} {ns : List Txt} {ks : List JsonD} {w : World} {B : Nat} {un : Value} {g cap : Nat} {dn rest : List Value} {W : World} (h : TwS k t ns ks w B un g cap ks.length dn rest W) : JO W (.mk k t ns ks) (B + 2) W.heap.size un (.slice (some ⟨g, 0, none⟩) ks.length cap) := by
  obtain ⟨cur, c1, c2, c3⟩ := h.row
  have hr : rest = [] := List.eq_nil_of_length_eq_zero (by rw [h.rlen]; omega)
  subst hr
  have hk := h.kids
  rw [List.take_length] at hk
  rw [List.append_nil] at c3
  have hgl := lt_of_heap c1
  have hlo := h.lo
  rw [JO]
  refine ⟨by omega, h.nrow, fun b hb => (ownsRow_base h.nrow hb).2, fun b hb => by simp [Value.ownBlock] at hb; omega, dn, ⟨by rw [h.dlen], .inr ⟨g, cap, cur, rfl, h.lo, c1, h.cap1, h.cap2, c2, c3⟩⟩, hk.widen (Nat.le_refl _) (Nat.le_refl _) (fun b hb => .inl (by
    rcases hb with hb | hb
    · exact .inl hb
    · simp [Value.ownBlock] at hb; exact .inr hb.symm))⟩
end Go.Proofs.YtlhhiiemojhjdaaGreatDoor
