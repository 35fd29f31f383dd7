/- Texts of this proof, laid into one: PoC, PoD, KaK. -/
import Derived.Test.YtlhhiiemojhjdaaDoorMp12
import Derived.Outline
import Derived.LaidEql
import Derived.Stop.Asserts
import Derived.RowKitTokens
/- policy.Decide: what statements say. -/
set_option linter.unusedVariables false
set_option linter.unusedSimpArgs false
namespace Go.Proofs.YtlhhiiemojhjdaaDoor
open Go Go.RowKit
set_option maxRecDepth 100000 in
theorem Decide_any (l : List StmtD) (user action resource : Txt) (v : Value) (w : World) (hv : StsV w v l) (hs : ∀ i, i < l.length → ShS (gSt l i)) (ha : action.length ≤ 140737488355328) (hr : resource.length ≤ 140737488355328) :
    Calls Tryd.prog 13 #[v, .string ⟨user.toArray⟩, .string ⟨action.toArray⟩, .string ⟨resource.toArray⟩] w fun e w' => e = .returned (.int .i64 ((decideL l user action resource : Nat) : Int)) ∧ Q w w' := by
  obtain ⟨A, c, rfl, hc1, hc2, hc3⟩ := hv
  obtain ⟨R, hR⟩ : ∃ R, decideL l user action resource = R := ⟨_, rfl⟩
  rw [hR]
  have HR := Lib.hid hR
  have HC := Lib.hid hc3
  have HS := Lib.hid hs
  have HA := Lib.hid ha
  have HRs := Lib.hid hr
  have hll : l.length ≤ 9223372036854775807 := by omega
  clear hR hc3 hs ha hr hc1 hc2
  go_enter Tryd.func13, Tryd.ntmps13
  go_upto_region 1 with (fail)
  obtain ⟨W, hW⟩ : ∃ W, ((w.alloc (.cells #[.string ⟨user.toArray⟩] 9)).alloc (.cells #[.string ⟨action.toArray⟩] 9)).alloc (.cells #[.string ⟨resource.toArray⟩] 9) = W := ⟨_, rfl⟩
  have hqW : Q w W := by rw [← hW]; exact (((Q.refl w).alloc _).alloc _).alloc _
  have hb1 : SB W w.heap.size user := by
    rw [← hW]
    exact (((Q.refl _).alloc _).alloc _).block (heap_alloc_new w _)
  have hb2 : SB W (w.heap.size + 1) action := by
    rw [← hW]
    refine ((Q.refl _).alloc _).block ?_
    have := heap_alloc_new (w.alloc (.cells #[.string ⟨user.toArray⟩] 9)) (.cells #[.string ⟨action.toArray⟩] 9)
    simpa using this
  have hb3 : SB W (w.heap.size + 1 + 1) resource := by
    rw [← hW]
    have := heap_alloc_new ((w.alloc (.cells #[.string ⟨user.toArray⟩] 9)).alloc (.cells #[.string ⟨action.toArray⟩] 9)) (.cells #[.string ⟨resource.toArray⟩] 9)
    unfold SB
    simpa using this
  rw [hW]
  have hsz : w.heap.size + 1 + 1 < W.heap.size := lt_of_heap hb3
  obtain ⟨N, hN⟩ : ∃ N, w.heap.size = N := ⟨_, rfl⟩
  rw [hN] at hb1 hb2 hb3 hsz ⊢
  have HB := Lib.hid (⟨hb1, hb2, hb3, hqW⟩ : SB W N user ∧ SB W (N + 1) action ∧ SB W (N + 1 + 1) resource ∧ Q w W)
  clear hb1 hb2 hb3 hqW hW hN hsz
  go_wp2_with fail
  go_loopw [9, 17] (fun o i wx => ∃ (k O : Nat), k ≤ l.length ∧ O ≤ 1 ∧ o = .int .i64 (O : Int) ∧ i = .int .i64 (k : Int) ∧ Hid (Q W wx ∧ max O (decideL (l.drop k) user action resource) = R)) (fun _ i _ => l.length - (intOf i).toNat)
  case atStart => exact ⟨0, 0, by omega, by omega, rfl, rfl, Lib.hid ⟨Q.refl W, by rw [List.drop_zero, HR.out]; omega⟩⟩
  case round =>
    obtain ⟨k, O, hk, hO, rfl, rfl, HI⟩ := hrel
    rename World => wa
    by_cases hlt : k < l.length
    · have hd : decide (k < l.length) = true := by simpa using hlt
      obtain ⟨g, off, va, vb, vc, rfl, hst, x0, x1, x2, x3⟩ := HC.out k hlt
      have hqa : Q w wa := HB.out.2.2.2.trans HI.out.1
      replace hst := hst.q hqa
      replace x0 := hqa.cell x0
      replace x1 := hqa.cell x1
      replace x2 := hqa.cell x2
      replace x3 := hqa.cell x3
      have hsh := HS.out k hlt
      have hE := HI.out.2
      rw [gSt_drop l k hlt, decideL] at hE
      obtain ⟨s, hse⟩ : ∃ s, gSt l k = s := ⟨_, rfl⟩
      rw [hse] at hst x0 hsh hE
      obtain ⟨al, who, acts, ress⟩ := s
      obtain ⟨hva, hvb, hvc⟩ := hst
      simp only at hva hvb hvc x0
      obtain ⟨A1, c1, rfl⟩ := hva.slice
      obtain ⟨A2, c2, rfl⟩ := hvb.slice
      obtain ⟨A3, c3, rfl⟩ := hvc.slice
      have HV := Lib.hid (⟨hva, hvb, hvc⟩ : NsV wa (.slice A1 who.length c1) who ∧ NsV wa (.slice A2 acts.length c2) acts ∧ NsV wa (.slice A3 ress.length c3) ress)
      have HQA := Lib.hid HI.out.1
      have HE := Lib.hid hE
      have HSh := Lib.hid hsh
      clear hva hvb hvc hE hsh hse hqa HI
      go_upto_region 5 with (fail)
      obtain ⟨W2, hW2⟩ : ∃ W2, wa.alloc (.cells #[.bool al, .slice A1 who.length c1, .slice A2 acts.length c2, .slice A3 ress.length c3] 25) = W2 := ⟨_, rfl⟩
      obtain ⟨M, hM⟩ : ∃ M, wa.heap.size = M := ⟨_, rfl⟩
      have hbx : W2.heap[M]? = some (.cells #[.bool al, .slice A1 who.length c1, .slice A2 acts.length c2, .slice A3 ress.length c3] 25 (0, 0)) := by rw [← hW2, ← hM]; exact heap_alloc_new wa _
      have hq2 : Q wa W2 := by rw [← hW2]; exact (Q.refl wa).alloc _
      rw [hM, hW2]
      clear x0 x1 x2 x3 hW2 hM
      have HBx := Lib.hid hbx
      have HQ2 := Lib.hid (HQA.out.trans hq2)
      have HC1 : Hid (∀ X, Q W2 X → Calls Tryd.prog 35 #[.slice A1 who.length c1, .func (.func 32) #[] #[.pointer (some ⟨N, 0, none⟩)]] X fun e w' => e = .returned (.bool (whoM who user)) ∧ Q X w') := Lib.hid (fun X hX => any_who N user who _ X (HB.out.1.q (HQ2.out.trans hX)) (HV.out.1.mono (fun _ _ => (hq2.trans hX).cell)))
      have HC2 : Hid (∀ X, Q W2 X → Calls Tryd.prog 35 #[.slice A2 acts.length c2, .func (.func 33) #[] #[.pointer (some ⟨N + 1, 0, none⟩)]] X fun e w' => e = .returned (.bool (anyM acts action)) ∧ Q X w') := Lib.hid (fun X hX => any_what (N + 1) action acts _ X (HB.out.2.1.q (HQ2.out.trans hX)) (HV.out.2.1.mono (fun _ _ => (hq2.trans hX).cell)) HSh.out.1 HA.out)
      have HC3 : Hid (∀ X, Q W2 X → Calls Tryd.prog 35 #[.slice A3 ress.length c3, .func (.func 34) #[] #[.pointer (some ⟨N + 1 + 1, 0, none⟩)]] X fun e w' => e = .returned (.bool (anyM ress resource)) ∧ Q X w') := Lib.hid (fun X hX => any_of (N + 1 + 1) resource ress _ X (HB.out.2.2.1.q (HQ2.out.trans hX)) (HV.out.2.2.mono (fun _ _ => (hq2.trans hX).cell)) HSh.out.2 HRs.out)
      clear hq2 hbx
      unfold fitS at HE
      simp only at HE
      obtain ⟨r1, h1⟩ : ∃ r, whoM who user = r := ⟨_, rfl⟩
      obtain ⟨r2, h2⟩ : ∃ r, anyM acts action = r := ⟨_, rfl⟩
      obtain ⟨r3, h3⟩ : ∃ r, anyM ress resource = r := ⟨_, rfl⟩
      rw [h1] at HC1
      rw [h2] at HC2
      rw [h3] at HC3
      rw [h1, h2, h3] at HE
      clear h1 h2 h3 HV HSh
      have y1 : W2.cell? ⟨M, 1, none⟩ = some (.slice A1 who.length c1) := by rw [cell_of_row _ _ _ _ _ _ HBx.out]; rfl
      go_upto_region 8 with (fail)
      cases r1 with
      | false =>
        have HN : Hid (max O (decideL (l.drop (k + 1)) user action resource) = R) := Lib.hid (by have := HE.out; simpa using this)
        go_wp2_with fail
        refine (HC1.out _ (Q.refl _)).mono ?_
        rintro e w3 ⟨rfl, hq3⟩
        have HQ3 := Lib.hid (HQ2.out.trans hq3)
        clear hq3 y1 HE
        go_wp2_with fail
        go_roundw
        case rel => exact ⟨k + 1, O, by omega, hO, rfl, by go_num, Lib.hid ⟨HQ3.out, HN.out⟩⟩
        case measure => simp [intOf]; omega
      | true =>
        go_wp2_with fail
        refine (HC1.out _ (Q.refl _)).mono ?_
        rintro e w3 ⟨rfl, hq3⟩
        have y2 : w3.cell? ⟨M, 2, none⟩ = some (.slice A2 acts.length c2) := by rw [cell_of_row _ _ _ _ _ _ (hq3.block HBx.out)]; rfl
        have HQ3 := Lib.hid hq3
        clear hq3 y1
        cases r2 with
        | false =>
          have HN : Hid (max O (decideL (l.drop (k + 1)) user action resource) = R) := Lib.hid (by have := HE.out; simpa using this)
          go_wp2_with fail
          refine (HC2.out _ HQ3.out).mono ?_
          rintro e w4 ⟨rfl, hq4⟩
          have HQ4 := Lib.hid (HQ2.out.trans (HQ3.out.trans hq4))
          clear hq4 y2 HE
          go_wp2_with fail
          go_roundw
          case rel => exact ⟨k + 1, O, by omega, hO, rfl, by go_num, Lib.hid ⟨HQ4.out, HN.out⟩⟩
          case measure => simp [intOf]; omega
        | true =>
          go_wp2_with fail
          refine (HC2.out _ HQ3.out).mono ?_
          rintro e w4 ⟨rfl, hq4⟩
          have HQ4 := Lib.hid (HQ3.out.trans hq4)
          have y3 : w4.cell? ⟨M, 3, none⟩ = some (.slice A3 ress.length c3) := by rw [cell_of_row _ _ _ _ _ _ (HQ4.out.block HBx.out)]; rfl
          clear hq4 y2
          cases r3 with
          | false =>
            have HN : Hid (max O (decideL (l.drop (k + 1)) user action resource) = R) := Lib.hid (by have := HE.out; simpa using this)
            go_wp2_with fail
            refine (HC3.out _ HQ4.out).mono ?_
            rintro e w5 ⟨rfl, hq5⟩
            have HQ5 := Lib.hid (HQ2.out.trans (HQ4.out.trans hq5))
            clear hq5 y3 HE
            go_wp2_with fail
            go_roundw
            case rel => exact ⟨k + 1, O, by omega, hO, rfl, by go_num, Lib.hid ⟨HQ5.out, HN.out⟩⟩
            case measure => simp [intOf]; omega
          | true =>
            go_wp2_with fail
            refine (HC3.out _ HQ4.out).mono ?_
            rintro e w5 ⟨rfl, hq5⟩
            have HQ5 := Lib.hid (HQ2.out.trans (HQ4.out.trans hq5))
            have y0 : w5.cell? ⟨M, 0, none⟩ = some (.bool al) := by rw [cell_of_row _ _ _ _ _ _ ((HQ4.out.trans hq5).block HBx.out)]; rfl
            clear hq5 y3
            cases al with
            | true =>
              have HN : Hid (max 1 (decideL (l.drop (k + 1)) user action resource) = R) := Lib.hid (by have := HE.out; simp at this; omega)
              clear HE
              go_wp2_with fail
              go_roundw
              case rel => exact ⟨k + 1, 1, by omega, by omega, rfl, by go_num, Lib.hid ⟨HQ5.out, HN.out⟩⟩
              case measure => simp [intOf]; omega
            | false =>
              have HN : Hid (R = 2) := Lib.hid (by have := HE.out; simp at this; omega)
              clear HE
              go_wp2_with fail
              go_ret
              rw [HN.out]
              exact ⟨rfl, HB.out.2.2.2.trans HQ5.out⟩
    · have hd : decide (k < l.length) = false := by simpa using hlt
      have HX : Hid (R = O) := Lib.hid (by
        have := HI.out.2
        rw [List.drop_of_length_le (by omega)] at this
        simp [decideL] at this; omega)
      have HQ := Lib.hid (HB.out.2.2.2.trans HI.out.1)
      clear HI
      go_wp2_with fail
      go_ret
      rw [HX.out]
      exact ⟨rfl, HQ.out⟩
end Go.Proofs.YtlhhiiemojhjdaaDoor
/- Errors of a policy: what it is refused with. -/
set_option linter.unusedVariables false
set_option linter.unusedSimpArgs false
namespace Go.Proofs.YtlhhiiemojhjdaaDoor
open Go Go.RowKit Go.Extern.Stop Go.Stop Go.Extern
/-- The error that says: no policy. -/
def noV : Value := .iface 41 (.int .i64 58)
theorem errNone_any (w : World) : Calls Tryd.prog 61 #[] w fun e w' => e = .returned (.iface 41 (.int .i64 58)) ∧ Q w w' := by
  go_enter Tryd.func61, Tryd.ntmps61
  go_wp2_with fail
  go_ret
  exact ⟨rfl, Q.refl w⟩
theorem equal_errno (d : Nat) (a b : Int) (w : World) : (Op.equalIn (d + 2) 32 (.iface 41 (.int .i64 a)) (.iface 41 (.int .i64 b))).run Tryd.prog w = .ok (a == b) w := by
  have hn : Tryd.prog.underlying 41 = some (.int .i64) := by kernel_rfl
  obtain ⟨i, hi, hc⟩ : ∃ i, Tryd.prog.info? 41 = some i ∧ i.comparable = true := by
    have h : (Tryd.prog.info? 41).map (·.comparable) = some true := by kernel_rfl
    obtain ⟨i, hi, hc⟩ := Option.map_eq_some_iff.1 h
    exact ⟨i, hi, hc⟩
  simp [Op.equalIn, run_underlying Tryd.underlying32, run_underlying hn, typeInfo, hi, hc]
theorem eql_errno (a b : Int) (w : World) : (binOp .eql 32 (.iface 41 (.int .i64 a)) (.iface 41 (.int .i64 b))).run Tryd.prog w = .ok (.bool (a == b)) w := by
  simp only [binOp]
  simp [Op.equal, Op.maxDepth, equal_errno 9998 a b w]
theorem callTypeOfE (n : Int) (w : World) : (callFunc 94 #[.iface 41 (.int .i64 n)]).run Tryd.prog w = .ok (.value (.iface 144 (.agg #[.pointer (some ⟨3, 41, none⟩)]))) w := by kernel_rfl
theorem callComparableE (w : World) : (callFunc 158 #[.agg #[.pointer (some ⟨3, 41, none⟩)]]).run Tryd.prog w = .ok (.value (.bool true)) w := by kernel_rfl
theorem mComparableE (v : Value) (w : World) : (Go.method 300 144 v "Comparable").run Tryd.prog w = .ok (158, v) w := by kernel_rfl
theorem hasIsF (v : Value) (xT : TypeId) (w : World) : (Instr.typeAssert (.iface 76 v) xT 146 true).run Tryd.prog w = .ok (.tuple #[.iface 76 v, .bool true]) w := run_typeAssert_hasB Tryd.underlying146 (by kernel_rfl) v xT w
theorem hasUnF (v : Value) (xT : TypeId) (w : World) : (Instr.typeAssert (.iface 76 v) xT 149 true).run Tryd.prog w = .ok (.tuple #[.iface 76 v, .bool true]) w := run_typeAssert_hasB Tryd.underlying149 (by kernel_rfl) v xT w
theorem lackIsJ (v : Value) (xT : TypeId) (w : World) : (Instr.typeAssert (.iface 140 v) xT 146 true).run Tryd.prog w = .ok (.tuple #[.nilIface, .bool false]) w := run_typeAssert_lacksB Tryd.underlying146 (by kernel_rfl) (by kernel_rfl) v xT w
theorem lackUnJ (v : Value) (xT : TypeId) (w : World) : (Instr.typeAssert (.iface 140 v) xT 149 true).run Tryd.prog w = .ok (.tuple #[.nilIface, .bool false]) w := run_typeAssert_lacksB Tryd.underlying149 (by kernel_rfl) (by kernel_rfl) v xT w
theorem hasUnJ (v : Value) (xT : TypeId) (w : World) : (Instr.typeAssert (.iface 140 v) xT 150 true).run Tryd.prog w = .ok (.tuple #[.iface 140 v, .bool true]) w := run_typeAssert_hasB Tryd.underlying150 (by kernel_rfl) v xT w
theorem mIsF (v : Value) (w : World) : (Go.method 300 76 v "Is").run Tryd.prog w = .ok (151, v) w := by kernel_rfl
theorem mUnF (v : Value) (w : World) : (Go.method 300 76 v "Unwrap").run Tryd.prog w = .ok (152, v) w := by kernel_rfl
theorem mUnJ (v : Value) (w : World) : (Go.method 300 140 v "Unwrap").run Tryd.prog w = .ok (154, v) w := by kernel_rfl
theorem asErrnoE (n : Int) (w : World) : (Instr.typeAssert (.iface 41 (.int .i64 n)) 32 41 true).run Tryd.prog w = .ok (.tuple #[.int .i64 n, .bool true]) w := by kernel_rfl
theorem FaultJ.c {w : World} {b : Nat} {c a : Int} (h : FaultJ w b c a) : w.cell? ⟨b, 0, none⟩ = some (.int .i64 c) ∧ w.cell? ⟨b, 1, none⟩ = some (.int .i64 a) ∧ w.cell? ⟨b, 2, none⟩ = some .nilIface :=
  ⟨by rw [cell_of_row _ _ _ _ _ _ h]; rfl, by rw [cell_of_row _ _ _ _ _ _ h]; rfl, by rw [cell_of_row _ _ _ _ _ _ h]; rfl⟩
theorem faultIsE (b : Nat) (c a t : Int) (w : World) (h : FaultJ w b c a) : Calls Tryd.prog 151 #[.pointer (some ⟨b, 0, none⟩), .iface 41 (.int .i64 t)] w fun e w' => e = .returned (.bool (t == c)) ∧ Q w w' := by
  obtain ⟨c0, _, _⟩ := h.c
  have hA := asErrnoE
  clear h
  by_cases ht : t = c
  · subst ht
    go_enter Tryd.func151, Tryd.ntmps151
    go_wp2_with fail
    go_ret
    exact ⟨by simp, Q.refl w⟩
  · have g : (t == c) = false := by simpa using ht
    go_enter Tryd.func151, Tryd.ntmps151
    go_wp2_with fail
    go_ret
    exact ⟨by simp [g], Q.refl w⟩
theorem faultUnE (b : Nat) (c a : Int) (w : World) (h : FaultJ w b c a) : Calls Tryd.prog 152 #[.pointer (some ⟨b, 0, none⟩)] w fun e w' => e = .returned .nilIface ∧ Q w w' := by
  obtain ⟨_, _, c2⟩ := h.c
  clear h
  go_enter Tryd.func152, Tryd.ntmps152
  go_wp2_with fail
  go_ret
  exact ⟨rfl, Q.refl w⟩
/-- errors.is of a fault and a number. -/
theorem isFault_any (b : Nat) (c a t : Int) (w : World) (h : FaultJ w b c a) : Calls Tryd.prog 95 #[.iface 76 (.pointer (some ⟨b, 0, none⟩)), .iface 41 (.int .i64 t), .bool true] w fun e w' => e = .returned (.bool (t == c)) ∧ Q w w' := by
  have hty := run_eql_iface_types (P := Tryd.prog) 76 41 (.pointer (some ⟨b, 0, none⟩)) (.int .i64 t) Tryd.underlying32 (by decide)
  have hI := hasIsF
  have mI := mIsF
  have hU := hasUnF
  have mU := mUnF
  have H := Lib.hid h
  have HIs : Hid (∀ W, Q w W → Calls Tryd.prog 151 #[.pointer (some ⟨b, 0, none⟩), .iface 41 (.int .i64 t)] W fun e w' => e = .returned (.bool (t == c)) ∧ Q W w') := Lib.hid (fun W hq => faultIsE b c a t W (h.q hq))
  clear h
  obtain ⟨r, hr⟩ : ∃ r, (t == c) = r := ⟨_, rfl⟩
  rw [hr] at HIs
  rw [hr]
  clear hr
  go_enter Tryd.func95, Tryd.ntmps95
  go_wp2
  refine wp_loop_rounds 1 ?_
  rw [rounds_succ]
  cases r with
  | true =>
    go_wp2_with (go_at_call 151; refine (HIs.out _ (Q.refl _)).mono ?_; rintro e w1 ⟨rfl, hq1⟩)
    go_ret
    exact ⟨rfl, hq1⟩
  | false =>
    go_wp2_with (first | (go_at_call 151; refine (HIs.out _ (Q.refl _)).mono ?_; rintro e w1 ⟨rfl, hq1⟩) | (go_at_call 152; refine (faultUnE b c a _ (H.out.q hq1)).mono ?_; rintro e w2 ⟨rfl, hq2⟩))
    go_ret
    exact ⟨rfl, hq1.trans hq2⟩
/-- errors.is of a number that is the other. -/
theorem isErrno_any (t : Int) (w : World) : Calls Tryd.prog 95 #[.iface 41 (.int .i64 t), .iface 41 (.int .i64 t), .bool true] w fun e w' => e = .returned (.bool true) ∧ Q w w' := by
  have he : ∀ w, (binOp .eql 32 (.iface 41 (.int .i64 t)) (.iface 41 (.int .i64 t))).run Tryd.prog w = .ok (.bool true) w := fun w => by rw [eql_errno]; simp
  go_enter Tryd.func95, Tryd.ntmps95
  go_wp2
  refine wp_loop_rounds 1 ?_
  rw [rounds_succ]
  go_wp2
  go_ret
  exact ⟨rfl, Q.refl w⟩
/-- Errors that were joined: all say: no policy. -/
def JoinE (w : World) (b : Nat) : Prop := ∃ g n c, 0 < n ∧ n ≤ 3 ∧ n ≤ c ∧ c ≤ 9223372036854775807 ∧ w.heap[b]? = some (.cells #[.slice (some ⟨g, 0, none⟩) n c] 142 (0, 0)) ∧ ∀ i, i < n → w.cell? ⟨g, i, none⟩ = some (.iface 41 (.int .i64 58))
theorem JoinE.q {w w' : World} {b : Nat} (h : JoinE w b) (hq : Q w w') : JoinE w' b := by
  obtain ⟨g, n, c, h0, h1, h2, h3, h4, h5⟩ := h
  exact ⟨g, n, c, h0, h1, h2, h3, hq.block h4, fun i hi => hq.cell (h5 i hi)⟩
theorem joinUn_any (b g n c : Nat) (w : World) (h : w.heap[b]? = some (.cells #[.slice (some ⟨g, 0, none⟩) n c] 142 (0, 0))) : Calls Tryd.prog 154 #[.pointer (some ⟨b, 0, none⟩)] w fun e w' => e = .returned (.slice (some ⟨g, 0, none⟩) n c) ∧ Q w w' := by
  have c0 : w.cell? ⟨b, 0, none⟩ = some (.slice (some ⟨g, 0, none⟩) n c) := by rw [cell_of_row _ _ _ _ _ _ h]; rfl
  clear h
  go_enter Tryd.func154, Tryd.ntmps154
  go_wp2_with fail
  go_ret
  exact ⟨rfl, Q.refl w⟩
theorem isJoin_any (b : Nat) (w : World) (h : JoinE w b) : Calls Tryd.prog 95 #[.iface 140 (.pointer (some ⟨b, 0, none⟩)), .iface 41 (.int .i64 58), .bool true] w fun e w' => e = .returned (.bool true) ∧ Q w w' := by
  have hty := run_eql_iface_types (P := Tryd.prog) 140 41 (.pointer (some ⟨b, 0, none⟩)) (.int .i64 58) Tryd.underlying32 (by decide)
  have hI := lackIsJ
  have hU := lackUnJ
  have hU2 := hasUnJ
  have mU := mUnJ
  obtain ⟨g, n, c, h0, h1, h2, h3, h4, h5⟩ := h
  have x0 := h5 0 h0
  have H4 := Lib.hid h4
  have hn : decide ((0 : Int) < (n : Int)) = true := by simp; omega
  have hn' : decide (0 < n) = true := by simp; omega
  clear h4 h5
  go_enter Tryd.func95, Tryd.ntmps95
  go_wp2
  refine wp_loop_rounds 1 ?_
  rw [rounds_succ]
  go_wp2_with (go_at_call 154; refine (joinUn_any b g n c _ H4.out).mono ?_; rintro e w1 ⟨rfl, hq1⟩)
  have HQ1 := Lib.hid hq1
  replace x0 := hq1.cell x0
  clear hq1 hty hI hU hU2 mU
  refine wp_loop_rounds 1 ?_
  rw [rounds_succ]
  go_wp2_with (go_at_call 95; refine (isErrno_any 58 _).mono ?_; rintro e w2 ⟨rfl, hq2⟩)
  go_ret
  exact ⟨rfl, HQ1.out.trans hq2⟩
/-- errors.Is, by errors.is. -/
theorem Is_of (t : Int) (tx : TypeId) (vx : Value) (r : Bool) (w : World) (h : ∀ W, Q w W → Calls Tryd.prog 95 #[.iface tx vx, .iface 41 (.int .i64 t), .bool true] W fun e w' => e = .returned (.bool r) ∧ Q W w') :
    Calls Tryd.prog 63 #[.iface tx vx, .iface 41 (.int .i64 t)] w fun e w' => e = .returned (.bool r) ∧ Q w w' := by
  have tT := callTypeOfE
  have cT := callComparableE
  have mC := mComparableE
  have H := Lib.hid h
  clear h
  go_enter Tryd.func63, Tryd.ntmps63
  go_wp2_with (go_at_call 95; refine (H.out _ (Q.refl _)).mono ?_; rintro e w' ⟨rfl, hq⟩)
  go_ret
  exact ⟨rfl, hq⟩
/-- What went wrong with a policy: json's error (code, place), or that it is no policy. -/
def WrongE (w : World) (x : Option (Int × Int)) (v : Value) : Prop :=
  match x with
  | some (c, a) => c ≠ 58 ∧ ∃ b, v = .iface 76 (.pointer (some ⟨b, 0, none⟩)) ∧ FaultJ w b c a
  | none => v = .iface 41 (.int .i64 58) ∨ ∃ b, v = .iface 140 (.pointer (some ⟨b, 0, none⟩)) ∧ JoinE w b
theorem WrongE.q {w w' : World} {x : Option (Int × Int)} {v : Value} (h : WrongE w x v) (hq : Q w w') : WrongE w' x v := by
  rcases x with _ | ⟨c, a⟩
  · rcases h with h | ⟨b, h1, h2⟩
    · exact .inl h
    · exact .inr ⟨b, h1, h2.q hq⟩
  · obtain ⟨h0, b, h1, h2⟩ := h
    exact ⟨h0, b, h1, h2.q hq⟩
theorem WrongE.is {w : World} {x : Option (Int × Int)} {v : Value} (h : WrongE w x v) : ∃ tx vx, v = .iface tx vx ∧ Calls Tryd.prog 63 #[.iface tx vx, .iface 41 (.int .i64 58)] w fun e w' => e = .returned (.bool x.isNone) ∧ Q w w' := by
  rcases x with _ | ⟨c, a⟩
  · rcases h with rfl | ⟨b, rfl, h2⟩
    · exact ⟨_, _, rfl, Is_of 58 _ _ true w (fun W hq => isErrno_any 58 W)⟩
    · exact ⟨_, _, rfl, Is_of 58 _ _ true w (fun W hq => isJoin_any b W (h2.q hq))⟩
  · obtain ⟨h0, b, rfl, h2⟩ := h
    refine ⟨_, _, rfl, Is_of 58 _ _ false w (fun W hq => ?_)⟩
    have := isFault_any b c a 58 W (h2.q hq)
    have e : ((58 : Int) == c) = false := by simpa using fun h => h0 h.symm
    rw [e] at this
    exact this
/-- A refusal: the error, and what it came from. -/
def RefE (w : World) (x : Option (Int × Int)) (v : Value) : Prop :=
  ∃ b, v = .iface 76 (.pointer (some ⟨b, 0, none⟩)) ∧
    match x with
    | none => FaultJ w b 58 0
    | some (c, a) => ∃ d, w.heap[b]? = some (.cells #[.int .i64 58, .int .i64 0, .iface 76 (.pointer (some ⟨d, 0, none⟩))] 78 (0, 0)) ∧ FaultJ w d c a
theorem RefE.q {w w' : World} {x : Option (Int × Int)} {v : Value} (h : RefE w x v) (hq : Q w w') : RefE w' x v := by
  obtain ⟨b, h1, h2⟩ := h
  refine ⟨b, h1, ?_⟩
  rcases x with _ | ⟨c, a⟩
  · exact FaultJ.q h2 hq
  · obtain ⟨d, h3, h4⟩ := h2
    exact ⟨d, hq.block h3, h4.q hq⟩
theorem refused_any (x : Option (Int × Int)) (v : Value) (w : World) (h : WrongE w x v) : Calls Tryd.prog 37 #[v] w fun e w' => (∃ u, e = .returned u ∧ RefE w' x u) ∧ Q w w' := by
  have hq0 : Q w (w.alloc (.cells #[.int .i64 58, .int .i64 0, .nilIface] 78)) := (Q.refl w).alloc _
  have hb0 := heap_alloc_new w (.cells #[.int .i64 58, .int .i64 0, .nilIface] 78)
  obtain ⟨tx, vx, rfl, hI⟩ := (h.q hq0).is
  have H := Lib.hid h
  have HI := Lib.hid hI
  obtain ⟨W, hW⟩ : ∃ W, w.alloc (.cells #[.int .i64 58, .int .i64 0, .nilIface] 78) = W := ⟨_, rfl⟩
  obtain ⟨N, hN⟩ : ∃ N, w.heap.size = N := ⟨_, rfl⟩
  rw [hW] at hq0 hb0 HI
  rw [hN] at hb0
  have HQ0 := Lib.hid hq0
  have HB0 := Lib.hid hb0
  clear h hI hq0 hb0
  go_enter Tryd.func37, Tryd.ntmps37
  go_upto_region 2 with (fail)
  have HNl : Hid (w.heap.size ≤ N) := Lib.hid (Nat.le_of_eq hN)
  clear hW hN
  rcases x with _ | ⟨c, a⟩
  · go_wp2_with fail
    refine HI.out.mono ?_
    rintro e w1 ⟨rfl, hq1⟩
    have HQ1 := Lib.hid (HQ0.out.trans hq1)
    have HF : Hid (RefE w1 none (.iface 76 (.pointer (some ⟨N, 0, none⟩)))) := Lib.hid ⟨N, rfl, hq1.block HB0.out⟩
    clear hq1
    go_wp2_with fail
    go_ret
    exact ⟨⟨_, rfl, HF.out⟩, HQ1.out⟩
  · go_wp2_with fail
    refine HI.out.mono ?_
    rintro e w1 ⟨rfl, hq1⟩
    have hb1 := hq1.block HB0.out
    have c2 : w1.cell? ⟨N, 2, none⟩ = some .nilIface := by rw [cell_of_row _ _ _ _ _ _ hb1]; rfl
    have f2 := frozen_of_row w1 N 2 _ _ hb1
    have HQ1 := Lib.hid (HQ0.out.trans hq1)
    have HX : Hid (RefE (w1.setCell ⟨N, 2, none⟩ (.iface tx vx)) (some (c, a)) (.iface 76 (.pointer (some ⟨N, 0, none⟩))) ∧ Q w (w1.setCell ⟨N, 2, none⟩ (.iface tx vx))) := Lib.hid (by
      obtain ⟨h0, d, h1, h2⟩ := H.out
      cases h1
      have hdl : d < w.heap.size := lt_of_heap h2
      have hN := HNl.out
      refine ⟨⟨N, rfl, d, ?_, ?_⟩, HQ1.out.setNew (by show w.heap.size ≤ N; exact hN) _⟩
      · rw [heap_setCell_any _ N 2 _ _ _ _ hb1]; rfl
      · exact FaultJ.q h2 (HQ1.out.setNew (by show w.heap.size ≤ N; exact hN) _))
    clear hq1 hb1
    go_wp2_with fail
    go_ret
    exact ⟨⟨_, rfl, HX.out.1⟩, HX.out.2⟩
end Go.Proofs.YtlhhiiemojhjdaaDoor
/- JSON, plain: how long the texts of a value are. -/
set_option linter.unusedVariables false
set_option linter.unusedSimpArgs false
namespace Go.Proofs.YtlhhiiemojhjdaaDoor
open Go Go.RowKit
mutual
/-- No text is longer. -/
def bigJ (N : Nat) : JsonD → Prop
  | .mk _ t ns ks => t.length ≤ N ∧ (∀ n ∈ ns, n.length ≤ N) ∧ bigKs N ks
def bigKs (N : Nat) : List JsonD → Prop
  | [] => True
  | j :: r => bigJ N j ∧ bigKs N r
end
theorem bigKs_iff (N : Nat) : ∀ (ks : List JsonD), bigKs N ks ↔ ∀ j ∈ ks, bigJ N j
  | [] => by rw [bigKs]; simp
  | j :: r => by rw [bigKs, bigKs_iff N r]; simp
mutual
theorem bigJ_mono {N M : Nat} (h : N ≤ M) : ∀ (j : JsonD), bigJ N j → bigJ M j
  | .mk k t ns ks, hb => by
    rw [bigJ] at hb ⊢
    exact ⟨Nat.le_trans hb.1 h, fun n hn => Nat.le_trans (hb.2.1 n hn) h, bigKs_mono h ks hb.2.2⟩
theorem bigKs_mono {N M : Nat} (h : N ≤ M) : ∀ (ks : List JsonD), bigKs N ks → bigKs M ks
  | [], _ => by rw [bigKs]; trivial
  | j :: r, hb => by
    rw [bigKs] at hb ⊢
    exact ⟨bigJ_mono h j hb.1, bigKs_mono h r hb.2⟩
end
theorem esc_lenJ {l : List UInt8} {c : List UInt8} {r : List UInt8} (h : escR l = .ok c r) : c.length ≤ 4 := by
  match l, h with
  | [], h => cases h
  | [a], h => cases h
  | a :: b :: t, h =>
    rw [escR] at h
    split at h
    · cases hF : fourR (a :: b :: t).length 4 0 t with
      | bad c n => rw [hF] at h; cases h
      | ok n u =>
        rw [hF] at h
        have h : codeR (a :: b :: t).length n u = .ok c r := h
        unfold codeR at h
        split at h
        · cases h
        · split at h
          · cases hU : unitR (a :: b :: t).length u with
            | bad c n => rw [hU] at h; cases h
            | ok d v =>
              rw [hU] at h
              have h : (if 56320 ≤ d ∧ d ≤ 57343 then PR.ok (Lib.encodeRune ((65536 + 1024 * (n - 55296) + (d - 56320) : Nat) : Int)) v else PR.bad 54 (a :: b :: t).length) = .ok c r := h
              split at h
              · injection h with h3 h4
                rw [← h3]; exact (enc_len _).2
              · cases h
          · injection h with h3 h4
            rw [← h3]; exact (enc_len _).2
    · cases hS : simpleE b with
      | none => rw [hS] at h; cases h
      | some d =>
        rw [hS] at h
        injection h with h3 h4
        rw [← h3]; simp
theorem txtR_len : ∀ (n : Nat) (l acc s r : List UInt8), txtR n l acc = .ok s r → s.length ≤ acc.length + 4 * n
  | 0, l, acc, s, r, h => by rw [txtR] at h; cases h
  | n + 1, [], acc, s, r, h => by rw [txtR] at h; cases h
  | n + 1, b :: t, acc, s, r, h => by
    rw [txtR] at h
    split at h
    · injection h with h1 h2; rw [← h1]; omega
    · split at h
      · cases hE : escR (b :: t) with
        | bad c m => rw [hE] at h; cases h
        | ok c u =>
          rw [hE] at h
          have := txtR_len n u (acc ++ c) s r h
          have := esc_lenJ hE
          rw [List.length_append] at *
          omega
      · split at h
        · cases h
        · have := txtR_len n _ _ s r h
          have h4 := (dec_k (b :: t) (by simp)).2.1
          have hu : utfN (b :: t) ≤ 4 := by
            unfold utfN
            split
            · omega
            · split <;> omega
          rw [List.length_append, List.length_take] at this
          omega
theorem textR_len {l s r : List UInt8} (h : textR l = .ok s r) : s.length ≤ 4 * l.length := by
  obtain ⟨_, t, h1, h2⟩ := bind_ok h
  have h3 := takeR_eats 34 l () t h1
  have := txtR_len _ _ _ _ _ h2
  simp at this
  omega
theorem itemsR_all {α : Type} {one : List UInt8 → PR α} {P : α → Prop} (N : Nat) (hg : ∀ l, (one l).good l) (h1 : ∀ l v r, l.length ≤ N → one l = .ok v r → P v) (c : UInt8) : ∀ (n : Nat) (l : List UInt8) (acc vs : List α) (r : List UInt8),
    l.length ≤ N → (∀ v ∈ acc, P v) → itemsR one c n l acc = .ok vs r → ∀ v ∈ vs, P v
  | 0, l, acc, vs, r, _, _, h => by rw [itemsR] at h; cases h
  | n + 1, l, acc, vs, r, hl, ha, h => by
    rw [itemsR] at h
    obtain ⟨v, q, e1, h2⟩ := bind_ok h
    have hgd := hg l
    rw [e1] at hgd
    have hq := List.IsSuffix.length_le hgd
    have hv := h1 l v q hl e1
    have ha2 : ∀ x ∈ acc ++ [v], P x := fun x hx => by
      rcases List.mem_append.1 hx with hx | hx
      · exact ha x hx
      · rw [List.mem_singleton.1 hx]; exact hv
    split at h2
    · injection h2 with h3 _
      rw [← h3]; exact ha2
    · obtain ⟨_, u, e2, h3⟩ := bind_ok h2
      have hgt := takeR_good 44 (skipJ q)
      rw [e2] at hgt
      have h4 := List.IsSuffix.length_le hgt
      have h5 := skip_len q
      have h6 := skip_len u
      exact itemsR_all N hg h1 c n _ _ _ _ (by omega) ha2 h3
theorem rowR_all {α : Type} {one : List UInt8 → PR α} {P : α → Prop} (N : Nat) (hg : ∀ l, (one l).good l) (h1 : ∀ l v r, l.length ≤ N → one l = .ok v r → P v) (c : UInt8) (l : List UInt8) (vs : List α) (r : List UInt8) (hl : l.length ≤ N) (h : rowR one c l = .ok vs r) : ∀ v ∈ vs, P v := by
  unfold rowR at h
  split at h
  · injection h with h _
    rw [← h]; intro v hv; cases hv
  · have := skip_len l
    exact itemsR_all N hg h1 c _ _ _ _ _ (by omega) (fun v hv => by cases hv) h
theorem atomR_big {N : Nat} {l r : List UInt8} {v : JsonD} (hl : l.length ≤ N) (h : atomR l = .ok v r) : bigJ (4 * N) v := by
  unfold atomR at h
  have hc : ∀ (w : List UInt8) (k : Int), constR w k l = .ok v r → bigJ (4 * N) v := fun w k h => by
    rw [constR_right h, bigJ, bigKs]; simp
  split at h
  · obtain ⟨s, t, e1, h2⟩ := bind_ok h
    injection h2 with h2 _
    have := textR_len e1
    rw [← h2, bigJ, bigKs]
    refine ⟨by omega, by simp, trivial⟩
  · split at h
    · exact hc _ _ h
    · split at h
      · exact hc _ _ h
      · split at h
        · exact hc _ _ h
        · split at h
          · obtain ⟨s, t, e1, h2⟩ := bind_ok h
            injection h2 with h2 _
            rw [← h2, bigJ, bigKs]
            refine ⟨by rw [List.length_take]; omega, by simp, trivial⟩
          · cases h
theorem pairR_big {one : List UInt8 → PR JsonD} {N : Nat} (h1 : ∀ l v r, l.length ≤ N → one l = .ok v r → bigJ (4 * N) v) (l : List UInt8) (v : List UInt8 × JsonD) (r : List UInt8) (hl : l.length ≤ N) (h : pairR one l = .ok v r) : v.1.length ≤ 4 * N ∧ bigJ (4 * N) v.2 := by
  unfold pairR at h
  obtain ⟨s, t, e1, h2⟩ := bind_ok h
  obtain ⟨_, u, e2, h3⟩ := bind_ok h2
  obtain ⟨j, q, e3, h4⟩ := bind_ok h3
  injection h4 with h4 _
  have g1 := textR_good l
  rw [e1] at g1
  have g1 := List.IsSuffix.length_le g1
  have g2 := takeR_good 58 (skipJ t)
  rw [e2] at g2
  have g2 := List.IsSuffix.length_le g2
  have g3 := skip_len t
  have g4 := skip_len u
  have := textR_len e1
  rw [← h4]
  exact ⟨by show s.length ≤ _; omega, h1 _ _ _ (by omega) e3⟩
theorem valR_big : ∀ (d : Nat) (N : Nat) (l : List UInt8) (v : JsonD) (r : List UInt8), l.length ≤ N → valR d l = .ok v r → bigJ (4 * N) v
  | 0, N, l, v, r, hl, h => by
    unfold valR at h
    split at h
    · cases h
    · exact atomR_big hl h
  | d + 1, N, l, v, r, hl, h => by
    unfold valR at h
    have htl : l.tail.length ≤ N := by rw [List.length_tail]; omega
    split at h
    · obtain ⟨ks, t, e1, h2⟩ := bind_ok h
      injection h2 with h2 _
      have := rowR_all N (valR_good d) (fun l v r hl h => valR_big d N l v r hl h) 93 _ _ _ htl e1
      rw [← h2, bigJ, bigKs_iff]
      exact ⟨by simp, by simp, this⟩
    · split at h
      · obtain ⟨ks, t, e1, h2⟩ := bind_ok h
        injection h2 with h2 _
        have := rowR_all (P := fun v => v.1.length ≤ 4 * N ∧ bigJ (4 * N) v.2) N (fun l => pairR_good (valR_good d) l) (fun l v r hl h => pairR_big (fun l v r hl h => valR_big d N l v r hl h) l v r hl h) 125 _ _ _ htl e1
        rw [← h2, bigJ, bigKs_iff]
        refine ⟨by simp, fun n hn => ?_, fun j hj => ?_⟩
        · obtain ⟨x, hx, rfl⟩ := List.mem_map.1 hn; exact (this x hx).1
        · obtain ⟨x, hx, rfl⟩ := List.mem_map.1 hj; exact (this x hx).2
      · exact atomR_big hl h
theorem parse_big {s : List UInt8} {v : JsonD} (h : parseJ s = .ok v) : bigJ 32000 v := by
  unfold parseJ at h
  split at h
  · cases h
  · next hl =>
    cases hv : valR 20 (skipJ s) with
    | bad e n => rw [hv] at h; cases h
    | ok w t =>
      rw [hv] at h
      have h : (if skipJ t = [] then Except.ok w else Except.error (54, s.length - (skipJ t).length)) = .ok v := h
      split at h
      · injection h with h
        have := skip_len s
        rw [← h]; exact valR_big 20 8000 _ _ _ (by omega) hv
      · cases h
end Go.Proofs.YtlhhiiemojhjdaaDoor
