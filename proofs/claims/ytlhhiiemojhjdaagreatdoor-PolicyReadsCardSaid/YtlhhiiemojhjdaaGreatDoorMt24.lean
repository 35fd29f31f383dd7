/- Texts of this proof, laid into one: PpG, PpH, ShapedJ. -/
import Derived.Test.YtlhhiiemojhjdaaGreatDoorMt23
import Derived.HandedShaped
import Derived.Test.YtlhhiiemojhjdaaGreatDoorRows
import Derived.SevenTiedAt
set_option linter.unusedVariables false
set_option linter.unusedSimpArgs false
namespace Go.Proofs.YtlhhiiemojhjdaaGreatDoor
open Go Go.RowKit
theorem asFaultZ (a : Option Addr) (w : World) : (Instr.typeAssert (.iface 32 (.pointer a)) 27 32 true).run Tryz.prog w = .ok (.tuple #[.pointer a, .bool true]) w := by kernel_rfl
def FaultI (w : World) (b : Nat) (c a : Int) (x : Value) : Prop := w.heap[b]? = some (.cells #[.int .i64 c, .int .i64 a, x] 36 (0, 0))
theorem FaultI.q {w w' : World} {b : Nat} {c a : Int} {x : Value} (h : FaultI w b c a x) (hq : Q w w') : FaultI w' b c a x := hq.block h
theorem FaultI.c {w : World} {b : Nat} {c a : Int} {x : Value} (h : FaultI w b c a x) : w.cell? ⟨b, 0, none⟩ = some (.int .i64 c) ∧ w.cell? ⟨b, 1, none⟩ = some (.int .i64 a) ∧ w.cell? ⟨b, 2, none⟩ = some x := by
  refine ⟨?_, ?_, ?_⟩ <;> (rw [cell_of_row _ _ _ _ _ _ h]; rfl)
theorem polR_code {s : Txt} {ca : Int × Int} (h : polR s = .error (some ca)) : ca.1 = 54 ∨ ca.1 = 56 ∨ ca.1 = 57 := by
  unfold polR at h
  split at h
  · next c a hp =>
    have := parse_code hp
    injection h with h
    injection h with h
    subst h
    show (c : Int) = 54 ∨ (c : Int) = 56 ∨ (c : Int) = 57
    omega
  · split at h
    · injection h with h; cases h
    · cases h
theorem faultIsI (b : Nat) (c a t : Int) (x : Value) (w : World) (h : FaultI w b c a x) (r : Bool) (hr : (t == c) = r) : Calls Tryz.prog 112 #[.pointer (some ⟨b, 0, none⟩), .iface 34 (.int .i64 t)] w fun e w' => e = .returned (.bool r) ∧ Q w w' := by
  obtain ⟨c0, _, _⟩ := h.c
  have hA := asErrnoE
  clear h
  subst hr
  by_cases ht : t = c
  · subst ht
    go_enter Tryz.func112, Tryz.ntmps112
    go_wp2_with fail
    go_ret
    exact ⟨by simp, Q.refl w⟩
  · have g : (t == c) = false := by simpa using ht
    go_enter Tryz.func112, Tryz.ntmps112
    go_wp2_with fail
    go_ret
    exact ⟨by simp [g], Q.refl w⟩
theorem faultUnI (b : Nat) (c a : Int) (tx : TypeId) (vx : Value) (w : World) (h : FaultI w b c a (.iface tx vx)) : Calls Tryz.prog 113 #[.pointer (some ⟨b, 0, none⟩)] w fun e w' => e = .returned (.iface tx vx) ∧ Q w w' := by
  obtain ⟨_, _, c2⟩ := h.c
  clear h
  go_enter Tryz.func113, Tryz.ntmps113
  go_wp2_with fail
  go_ret
  exact ⟨rfl, Q.refl w⟩
theorem isInner_any (b d : Nat) (c a : Int) (w : World) (hc : c ≠ 58) (h : FaultI w b 58 0 (.iface 32 (.pointer (some ⟨d, 0, none⟩)))) (h2 : FaultJ w d c a) : Calls Tryz.prog 20 #[.iface 32 (.pointer (some ⟨b, 0, none⟩)), .iface 34 (.int .i64 c), .bool true] w fun e w' => e = .returned (.bool true) ∧ Q w w' := by
  have hty := run_eql_iface_types (P := Tryz.prog) 32 34 (.pointer (some ⟨b, 0, none⟩)) (.int .i64 c) Tryz.underlying27 (by decide)
  have hty2 := run_eql_iface_types (P := Tryz.prog) 32 34 (.pointer (some ⟨d, 0, none⟩)) (.int .i64 c) Tryz.underlying27 (by decide)
  have hI := hasIsF
  have mI := mIsF
  have hU := hasUnF
  have mU := mUnF
  have HIs1 : Hid (∀ W, Q w W → Calls Tryz.prog 112 #[.pointer (some ⟨b, 0, none⟩), .iface 34 (.int .i64 c)] W fun e w' => e = .returned (.bool false) ∧ Q W w') := Lib.hid (fun W hq => faultIsI b 58 0 c _ W (h.q hq) false (by simpa using hc))
  have HIs2 : Hid (∀ W, Q w W → Calls Tryz.prog 112 #[.pointer (some ⟨d, 0, none⟩), .iface 34 (.int .i64 c)] W fun e w' => e = .returned (.bool true) ∧ Q W w') := Lib.hid (fun W hq => faultIsI d c a c _ W (h2.q hq) true (by simp))
  have HUn : Hid (∀ W, Q w W → Calls Tryz.prog 113 #[.pointer (some ⟨b, 0, none⟩)] W fun e w' => e = .returned (.iface 32 (.pointer (some ⟨d, 0, none⟩))) ∧ Q W w') := Lib.hid (fun W hq => faultUnI b 58 0 _ _ W (h.q hq))
  clear h h2 hc
  go_enter Tryz.func20, Tryz.ntmps20
  go_wp2
  refine wp_loop_rounds 2 ?_
  rw [rounds_succ]
  go_wp2_with (first | (go_at_call 112; refine (HIs1.out _ (Q.refl _)).mono ?_; rintro e w1 ⟨rfl, hq1⟩) | (go_at_call 113; refine (HUn.out _ hq1).mono ?_; rintro e w2 ⟨rfl, hq2⟩))
  rw [rounds_succ]
  go_wp2_with (go_at_call 112; refine (HIs2.out _ (hq1.trans hq2)).mono ?_; rintro e w3 ⟨rfl, hq3⟩)
  go_ret
  exact ⟨rfl, (hq1.trans hq2).trans hq3⟩
set_option maxRecDepth 100000 in
set_option maxHeartbeats 8000000 in
theorem PolicyReads_any (s : Txt) (w : World) (hu : UT w) : Calls Tryz.prog 3 #[.string ⟨s.toArray⟩] w fun e w' => e = .returned (.bool true) ∧ Q w w' := by
  have HU : Hid (∀ W, Q w W → UT W) := Lib.hid (fun W hq => Utf8Tabs_below hu hq)
  have HEx := Lib.hid (examples18 w hu)
  have HPo := Lib.hid (fun W (hq : Q w W) => policy_any s W (HU.out W hq))
  have HRp := Lib.hid (fun W => rpolicy_any s W)
  have HCo := Lib.hid (fun ca h => polR_code (s := s) (ca := ca) h)
  clear hu
  obtain ⟨O, hO⟩ : ∃ O, polR s = O := ⟨_, rfl⟩
  rw [hO] at HPo HRp HCo
  clear hO
  cases O with
  | ok l =>
    go_enter Tryz.func3, Tryz.ntmps3
    go_wp2_with fail
    refine HEx.out.mono ?_
    rintro e w1 ⟨rfl, hq1⟩
    have HQ1 := Lib.hid hq1
    clear hq1 HEx
    go_wp2_with fail
    refine (HRp.out w1).mono ?_
    rintro e w2 ⟨hq2, Aw, cw, rfl, hsw⟩
    have HQ2 := Lib.hid (HQ1.out.trans hq2)
    have HSw := Lib.hid hsw
    clear hq2 hsw HRp HQ1
    go_wp2_with fail
    go_loopg [8] 3 (fun gk i wx => ∃ q : Nat, gk = 2 - q + 1 ∧ q ≤ 2 ∧ i = .int .i64 (q : Int) ∧ Hid (Q w2 wx))
    case atStart => exact ⟨0, rfl, by omega, rfl, Lib.hid (Q.refl w2)⟩
    case round =>
      obtain ⟨q, rfl, hq, rfl, HI⟩ := hrel
      rename World => wa
      by_cases hlt : q < 2
      · have hdq : decide ((q : Int) < 2) = true := by simp; omega
        have HPr := Lib.hid (HPo.out wa (HQ2.out.trans HI.out))
        go_wp2_with fail
        refine HPr.out.mono ?_
        rintro e w3 ⟨hq3, A3, c3, rfl, hst⟩
        have HQ3 := Lib.hid hq3
        have HSt := Lib.hid hst
        have HAl := Lib.hid (alike18_any l _ _ w3 hst.read (HSw.out.q (HI.out.trans hq3)))
        clear hq3 hst HPr
        go_wp2_with fail
        refine HAl.out.mono ?_
        rintro e w4 ⟨rfl, hq4⟩
        have HQ4 := Lib.hid (HQ3.out.trans hq4)
        have HSp := Lib.hid (spoil18_any wa.heap.size l w4 _ (HSt.out.q hq4) HQ4.out.size)
        clear hq4 HAl HSt
        go_wp2_with fail
        refine HSp.out.mono ?_
        rintro e w5 ⟨rfl, hb5⟩
        have HN : Hid (Q w2 w5) := Lib.hid (HI.out.trans (Q.below HQ4.out hb5))
        clear hb5 HSp
        go_wp2_with fail
        go_roundg (2 - (q + 1) + 1)
        case measure => omega
        case rel => exact ⟨q + 1, rfl, by omega, by simp, HN⟩
      · have hdq : decide ((q : Int) < 2) = false := by simp; omega
        have HX := Lib.hid (HQ2.out.trans HI.out)
        clear HI hlt
        go_wp2_with fail
        go_ret
        exact ⟨rfl, HX.out⟩
  | error x =>
    cases x with
    | none =>
      go_enter Tryz.func3, Tryz.ntmps3
      go_wp2_with fail
      refine HEx.out.mono ?_
      rintro e w1 ⟨rfl, hq1⟩
      have HQ1 := Lib.hid hq1
      clear hq1 HEx
      go_wp2_with fail
      refine (HRp.out w1).mono ?_
      rintro e w2 ⟨hq2, rfl⟩
      have HQ2 := Lib.hid (HQ1.out.trans hq2)
      clear hq2 HRp HQ1
      go_wp2_with fail
      go_loopg [8] 3 (fun gk i wx => ∃ q : Nat, gk = 2 - q + 1 ∧ q ≤ 2 ∧ i = .int .i64 (q : Int) ∧ Hid (Q w2 wx))
      case atStart => exact ⟨0, rfl, by omega, rfl, Lib.hid (Q.refl w2)⟩
      case round =>
        obtain ⟨q, rfl, hq, rfl, HI⟩ := hrel
        rename World => wa
        by_cases hlt : q < 2
        · have hdq : decide ((q : Int) < 2) = true := by simp; omega
          have HPr := Lib.hid (HPo.out wa (HQ2.out.trans HI.out))
          have hA := asFaultZ
          go_wp2_with fail
          refine HPr.out.mono ?_
          rintro e w3 ⟨hq3, b, rfl, b2, hb2, hf⟩
          injection hb2 with _ hb2
          injection hb2 with hb2
          injection hb2 with hb2
          injection hb2 with hb2
          subst hb2
          obtain ⟨x0, x1, x2⟩ := FaultJ.c hf
          have HN : Hid (Q w2 w3) := Lib.hid (HI.out.trans hq3)
          clear hq3 hf HPr
          go_wp2_with fail
          go_roundg (2 - (q + 1) + 1)
          case measure => omega
          case rel => exact ⟨q + 1, rfl, by omega, by simp, HN⟩
        · have hdq : decide ((q : Int) < 2) = false := by simp; omega
          have HX := Lib.hid (HQ2.out.trans HI.out)
          clear HI hlt
          go_wp2_with fail
          go_ret
          exact ⟨rfl, HX.out⟩
    | some ca =>
      obtain ⟨C, P⟩ := ca
      have hcode := HCo.out (C, P) rfl
      have hcode : C = 54 ∨ C = 56 ∨ C = 57 := hcode
      have HC58 : Hid (C ≠ 58) := Lib.hid (by omega)
      have hC0 : ¬ C = 0 := by omega
      have g0 : (C != 0) = true := by simpa using hC0
      have g1 : (C == 0) = false := by simpa using hC0
      have gC : (C != C) = false := by simp
      have gP : (P != P) = false := by simp
      have HC0 := Lib.hid hC0
      clear hcode hC0 HCo
      go_enter Tryz.func3, Tryz.ntmps3
      go_wp2_with fail
      refine HEx.out.mono ?_
      rintro e w1 ⟨rfl, hq1⟩
      have HQ1 := Lib.hid hq1
      clear hq1 HEx
      go_wp2_with fail
      refine (HRp.out w1).mono ?_
      rintro e w2 ⟨hq2, -, rfl⟩
      have HQ2 := Lib.hid (HQ1.out.trans hq2)
      clear hq2 HRp HQ1
      go_wp2_with fail
      go_loopg [8] 3 (fun gk i wx => ∃ q : Nat, gk = 2 - q + 1 ∧ q ≤ 2 ∧ i = .int .i64 (q : Int) ∧ Hid (Q w2 wx))
      case atStart => exact ⟨0, rfl, by omega, rfl, Lib.hid (Q.refl w2)⟩
      case round =>
        obtain ⟨q, rfl, hq, rfl, HI⟩ := hrel
        rename World => wa
        by_cases hlt : q < 2
        · have hdq : decide ((q : Int) < 2) = true := by simp; omega
          have HPr := Lib.hid (HPo.out wa (HQ2.out.trans HI.out))
          have hA := asFaultZ
          go_wp2_with fail
          refine HPr.out.mono ?_
          rintro e w3 ⟨hq3, b, rfl, b2, hb2, d, hf, hd⟩
          injection hb2 with _ hb2
          injection hb2 with hb2
          injection hb2 with hb2
          injection hb2 with hb2
          subst hb2
          have hf : FaultI w3 b 58 0 (.iface 32 (.pointer (some ⟨d, 0, none⟩))) := hf
          obtain ⟨x0, x1, x2⟩ := hf.c
          obtain ⟨y0, y1, y2⟩ := FaultJ.c hd
          have HIs := Lib.hid (Is_of C 32 (.pointer (some ⟨b, 0, none⟩)) true w3 (fun W hq => isInner_any b d C P W HC58.out (hf.q hq) (hd.q hq)))
          have HQ3 := Lib.hid (HI.out.trans hq3)
          clear hq3 hf hd HPr
          go_wp2_with fail
          refine HIs.out.mono ?_
          rintro e w4 ⟨rfl, hq4⟩
          have HN : Hid (Q w2 w4) := Lib.hid (HQ3.out.trans hq4)
          clear hq4 HIs x0 x1 x2 y0 y1 y2
          go_wp2_with fail
          go_roundg (2 - (q + 1) + 1)
          case measure => omega
          case rel => exact ⟨q + 1, rfl, by omega, by simp, HN⟩
        · have hdq : decide ((q : Int) < 2) = false := by simp; omega
          have HX := Lib.hid (HQ2.out.trans HI.out)
          clear HI hlt
          go_wp2_with fail
          go_ret
          exact ⟨rfl, HX.out⟩
end Go.Proofs.YtlhhiiemojhjdaaGreatDoor
set_option linter.unusedVariables false
namespace Go.Proofs.YtlhhiiemojhjdaaGreatDoor
open Go Go.RowKit
set_option maxRecDepth 100000 in
theorem ut_of_laidZ {W : World} (h : laidMetH Tryz.prog laidJ W) (hs : W.ShapedOpen Tryz.prog) : UT W := by
  rw [MakeChecks.laidMetH_plain _ _ _ (by kernel_rfl)] at h
  have ha : Lib.VarReads Tryz.prog W "unicode/utf8.acceptRanges" Lib.acceptData := accept_dataJ ▸ Lib.laidMet.reads h (.head _)
  have hf : Lib.VarReads Tryz.prog W "unicode/utf8.first" Lib.firstData := pinned_firstJ ▸ Lib.laidMet.reads h (.tail _ (.head _))
  exact utf8Tabs_of_readsT (ρ := Tryz.lays197_ren) { Tryz.lays197 with } ⟨by kernel_rfl, by kernel_rfl, by kernel_rfl, by kernel_rfl, by kernel_rfl, by kernel_rfl, by kernel_rfl⟩ hf ha
end Go.Proofs.YtlhhiiemojhjdaaGreatDoor
set_option linter.unusedVariables false
namespace Go.Proofs.YtlhhiiemojhjdaaGreatDoor
open Go Go.RowKit
theorem returnsInHanded_and_shaped {H : Type} {enc : TypeId × Value → H} {a : Assume} {C : Checked} {os : Os} {f : FuncId} {fn : Func} {s : ChangeSpec} {conds : List PathCond} {apart fresh handsOn again : Bool} {X : World → Array Value → Prop}
    (hX : ∀ (w w' : World) (args : Array Value), w.heap = w'.heap → X w args → X w' args)
    (own : ownKnob C.prog.godebug = none) (started : os.Started) (noInit : C.prog.inits.idxOf? f = none) (hfn : C.prog.funcs[f]? = some fn)
    (witness : ∃ (w : World) (tape : Tape) (i : Input), w.os = os ∧ (w.forCall tape i).Shaped C.prog ∧ i.vars = [] ∧ Input.okWide C.prog (w.forCall tape i) .any w.heap.size f i ∧
      ((s.pre enc C.prog fn conds apart (w.forCall tape i).memory i.args ∧ X (w.forCall tape i).memory i.args) ∧ sizedMet enc C.prog fn (OpenSpec.ofChange s) apart (w.forCall tape i).memory i.args) ∧ a.holds C.prog (lone (Frame.enter C.prog f i.args .normal) [] (w.forCall tape i)))
    (contract : ∀ (W : World) (base : Nat) (args : Array Value) (ds gs : List (DataW H)) (before : List MemPlace),
      (∀ (j : Nat) t v, fn.params[j]? = some t → args[j]? = some v → Value.okWide C.prog W .any base t v) →
      DataW.Whole enc C.prog fn.params.toList s.vars apart W args.toList ds gs before →
      conds.all (PathCond.test C.prog ⟨fn.params.toList, ds, s.plain.varTypes C.prog, gs⟩) = true →
      (DataW.weightsEach C.prog (fn.params.toList ++ s.plain.varTypes C.prog) (ds ++ gs)).all (· ≤ reachBytes) = true → X W args →
      W.ShapedOpen C.prog →
      a.holds C.prog (lone (Frame.enter C.prog f args .normal) [] W) →
      Calls C.prog f args W fun e W' => ∃ v, e = .returned v ∧ s.post enc C.prog fn apart fresh handsOn again W args v W') :
    ReturnsInHanded a C os f .any (fun w args => (s.pre enc C.prog fn conds apart w args ∧ X w args) ∧ sizedMet enc C.prog fn (OpenSpec.ofChange s) apart w args) (s.post enc C.prog fn apart fresh handsOn again) := by
  refine returnsInHanded_of_calls own started noInit witness ?_
  intro w tape i _ hsh _ hok hpre hholds
  obtain ⟨_, _, _, fn', hfn', _, _, _, _, hval⟩ := hok
  have e : fn' = fn := Option.some.inj (hfn'.symm.trans hfn)
  subst e
  obtain ⟨⟨⟨ds, gs, before, hw, hc⟩, hx⟩, hz⟩ := hpre
  have hw' := DataW.Whole.of_heap (w' := w.forCall tape i) (by rfl) hw
  refine (contract (w.forCall tape i) w.heap.size i.args ds gs before hval hw' hc (hz.weights hw) (hX _ _ _ (by rfl) hx) hsh hholds).mono fun e W' ⟨v, he, hp⟩ => ?_
  subst he
  exact ChangeSpec.post_blind hp
theorem door_laidJ (os : Os) (args : Array Value) : laidMetH Tryz.prog laidJ ((World.laidAll Tryz.prog os laidJ).forCall (fun _ _ => 0) ⟨#[], args, []⟩).memory := by
  rw [MakeChecks.laidMetH_plain _ _ _ (by kernel_rfl)]; exact laid_metJ os args
end Go.Proofs.YtlhhiiemojhjdaaGreatDoor
