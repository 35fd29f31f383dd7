/- Texts of this proof, laid into one: PoC, PoD, PoE, PoF, PoG, OneS. -/
import Derived.Test.YtlhhiiemojhjdaaGreatDoorMt16
import Derived.Outline
import Derived.LaidEql
import Derived.Stop.Asserts
import Derived.RowKitTokens
import Derived.Lib.JoinLaws
import Derived.Maps.OwnSet
import Derived.Maps.OwnOps
set_option linter.unusedVariables false
set_option linter.unusedSimpArgs false
namespace Go.Proofs.YtlhhiiemojhjdaaGreatDoor
open Go Go.RowKit
set_option maxRecDepth 100000 in
theorem Decide_any (l : List StmtD) (user action resource : Txt) (v : Value) (w : World) (hv : StsV w v l) (hs : ∀ i, i < l.length → ShS (gSt l i)) (ha : action.length ≤ 140737488355328) (hr : resource.length ≤ 140737488355328) :
    Calls Tryz.prog 11 #[v, .string ⟨user.toArray⟩, .string ⟨action.toArray⟩, .string ⟨resource.toArray⟩] w fun e w' => e = .returned (.int .i64 ((decideL l user action resource : Nat) : Int)) ∧ Q w w' := by
  obtain ⟨A, c, rfl, hc1, hc2, hc3⟩ := hv
  obtain ⟨R, hR⟩ : ∃ R, decideL l user action resource = R := ⟨_, rfl⟩
  rw [hR]
  have HR := Lib.hid hR
  have HC := Lib.hid hc3
  have HS := Lib.hid hs
  have HA := Lib.hid ha
  have HRs := Lib.hid hr
  have hll : l.length ≤ 9223372036854775807 := by omega
  clear hR hc3 hs ha hr hc1 hc2
  go_enter Tryz.func11, Tryz.ntmps11
  go_upto_region 1 with (fail)
  obtain ⟨W, hW⟩ : ∃ W, ((w.alloc (.cells #[.string ⟨user.toArray⟩] 9)).alloc (.cells #[.string ⟨action.toArray⟩] 9)).alloc (.cells #[.string ⟨resource.toArray⟩] 9) = W := ⟨_, rfl⟩
  have hqW : Q w W := by rw [← hW]; exact (((Q.refl w).alloc _).alloc _).alloc _
  have hb1 : SB W w.heap.size user := by
    rw [← hW]
    exact (((Q.refl _).alloc _).alloc _).block (heap_alloc_new w _)
  have hb2 : SB W (w.heap.size + 1) action := by
    rw [← hW]
    refine ((Q.refl _).alloc _).block ?_
    have := heap_alloc_new (w.alloc (.cells #[.string ⟨user.toArray⟩] 9)) (.cells #[.string ⟨action.toArray⟩] 9)
    simpa using this
  have hb3 : SB W (w.heap.size + 1 + 1) resource := by
    rw [← hW]
    have := heap_alloc_new ((w.alloc (.cells #[.string ⟨user.toArray⟩] 9)).alloc (.cells #[.string ⟨action.toArray⟩] 9)) (.cells #[.string ⟨resource.toArray⟩] 9)
    unfold SB
    simpa using this
  rw [hW]
  have hsz : w.heap.size + 1 + 1 < W.heap.size := lt_of_heap hb3
  obtain ⟨N, hN⟩ : ∃ N, w.heap.size = N := ⟨_, rfl⟩
  rw [hN] at hb1 hb2 hb3 hsz ⊢
  have HB := Lib.hid (⟨hb1, hb2, hb3, hqW⟩ : SB W N user ∧ SB W (N + 1) action ∧ SB W (N + 1 + 1) resource ∧ Q w W)
  clear hb1 hb2 hb3 hqW hW hN hsz
  go_wp2_with fail
  go_loopw [9, 17] (fun o i wx => ∃ (k O : Nat), k ≤ l.length ∧ O ≤ 1 ∧ o = .int .i64 (O : Int) ∧ i = .int .i64 (k : Int) ∧ Hid (Q W wx ∧ max O (decideL (l.drop k) user action resource) = R)) (fun _ i _ => l.length - (intOf i).toNat)
  case atStart => exact ⟨0, 0, by omega, by omega, rfl, rfl, Lib.hid ⟨Q.refl W, by rw [List.drop_zero, HR.out]; omega⟩⟩
  case round =>
    obtain ⟨k, O, hk, hO, rfl, rfl, HI⟩ := hrel
    rename World => wa
    by_cases hlt : k < l.length
    · have hd : decide (k < l.length) = true := by simpa using hlt
      obtain ⟨g, off, va, vb, vc, rfl, hst, x0, x1, x2, x3⟩ := HC.out k hlt
      have hqa : Q w wa := HB.out.2.2.2.trans HI.out.1
      replace hst := hst.q hqa
      replace x0 := hqa.cell x0
      replace x1 := hqa.cell x1
      replace x2 := hqa.cell x2
      replace x3 := hqa.cell x3
      have hsh := HS.out k hlt
      have hE := HI.out.2
      rw [gSt_drop l k hlt, decideL] at hE
      obtain ⟨s, hse⟩ : ∃ s, gSt l k = s := ⟨_, rfl⟩
      rw [hse] at hst x0 hsh hE
      obtain ⟨al, who, acts, ress⟩ := s
      obtain ⟨hva, hvb, hvc⟩ := hst
      simp only at hva hvb hvc x0
      obtain ⟨A1, c1, rfl⟩ := hva.slice
      obtain ⟨A2, c2, rfl⟩ := hvb.slice
      obtain ⟨A3, c3, rfl⟩ := hvc.slice
      have HV := Lib.hid (⟨hva, hvb, hvc⟩ : NsV wa (.slice A1 who.length c1) who ∧ NsV wa (.slice A2 acts.length c2) acts ∧ NsV wa (.slice A3 ress.length c3) ress)
      have HQA := Lib.hid HI.out.1
      have HE := Lib.hid hE
      have HSh := Lib.hid hsh
      clear hva hvb hvc hE hsh hse hqa HI
      go_upto_region 5 with (fail)
      obtain ⟨W2, hW2⟩ : ∃ W2, wa.alloc (.cells #[.bool al, .slice A1 who.length c1, .slice A2 acts.length c2, .slice A3 ress.length c3] 41) = W2 := ⟨_, rfl⟩
      obtain ⟨M, hM⟩ : ∃ M, wa.heap.size = M := ⟨_, rfl⟩
      have hbx : W2.heap[M]? = some (.cells #[.bool al, .slice A1 who.length c1, .slice A2 acts.length c2, .slice A3 ress.length c3] 41 (0, 0)) := by rw [← hW2, ← hM]; exact heap_alloc_new wa _
      have hq2 : Q wa W2 := by rw [← hW2]; exact (Q.refl wa).alloc _
      rw [hM, hW2]
      clear x0 x1 x2 x3 hW2 hM
      have HBx := Lib.hid hbx
      have HQ2 := Lib.hid (HQA.out.trans hq2)
      have HC1 : Hid (∀ X, Q W2 X → Calls Tryz.prog 24 #[.slice A1 who.length c1, .func (.func 21) #[] #[.pointer (some ⟨N, 0, none⟩)]] X fun e w' => e = .returned (.bool (whoM who user)) ∧ Q X w') := Lib.hid (fun X hX => any_who N user who _ X (HB.out.1.q (HQ2.out.trans hX)) (HV.out.1.mono (fun _ _ => (hq2.trans hX).cell)))
      have HC2 : Hid (∀ X, Q W2 X → Calls Tryz.prog 24 #[.slice A2 acts.length c2, .func (.func 22) #[] #[.pointer (some ⟨N + 1, 0, none⟩)]] X fun e w' => e = .returned (.bool (anyM acts action)) ∧ Q X w') := Lib.hid (fun X hX => any_what (N + 1) action acts _ X (HB.out.2.1.q (HQ2.out.trans hX)) (HV.out.2.1.mono (fun _ _ => (hq2.trans hX).cell)) HSh.out.1 HA.out)
      have HC3 : Hid (∀ X, Q W2 X → Calls Tryz.prog 24 #[.slice A3 ress.length c3, .func (.func 23) #[] #[.pointer (some ⟨N + 1 + 1, 0, none⟩)]] X fun e w' => e = .returned (.bool (anyM ress resource)) ∧ Q X w') := Lib.hid (fun X hX => any_of (N + 1 + 1) resource ress _ X (HB.out.2.2.1.q (HQ2.out.trans hX)) (HV.out.2.2.mono (fun _ _ => (hq2.trans hX).cell)) HSh.out.2 HRs.out)
      clear hq2 hbx
      unfold fitS at HE
      simp only at HE
      obtain ⟨r1, h1⟩ : ∃ r, whoM who user = r := ⟨_, rfl⟩
      obtain ⟨r2, h2⟩ : ∃ r, anyM acts action = r := ⟨_, rfl⟩
      obtain ⟨r3, h3⟩ : ∃ r, anyM ress resource = r := ⟨_, rfl⟩
      rw [h1] at HC1
      rw [h2] at HC2
      rw [h3] at HC3
      rw [h1, h2, h3] at HE
      clear h1 h2 h3 HV HSh
      have y1 : W2.cell? ⟨M, 1, none⟩ = some (.slice A1 who.length c1) := by rw [cell_of_row _ _ _ _ _ _ HBx.out]; rfl
      go_upto_region 8 with (fail)
      cases r1 with
      | false =>
        have HN : Hid (max O (decideL (l.drop (k + 1)) user action resource) = R) := Lib.hid (by have := HE.out; simpa using this)
        go_wp2_with fail
        refine (HC1.out _ (Q.refl _)).mono ?_
        rintro e w3 ⟨rfl, hq3⟩
        have HQ3 := Lib.hid (HQ2.out.trans hq3)
        clear hq3 y1 HE
        go_wp2_with fail
        go_roundw
        case rel => exact ⟨k + 1, O, by omega, hO, rfl, by go_num, Lib.hid ⟨HQ3.out, HN.out⟩⟩
        case measure => simp [intOf]; omega
      | true =>
        go_wp2_with fail
        refine (HC1.out _ (Q.refl _)).mono ?_
        rintro e w3 ⟨rfl, hq3⟩
        have y2 : w3.cell? ⟨M, 2, none⟩ = some (.slice A2 acts.length c2) := by rw [cell_of_row _ _ _ _ _ _ (hq3.block HBx.out)]; rfl
        have HQ3 := Lib.hid hq3
        clear hq3 y1
        cases r2 with
        | false =>
          have HN : Hid (max O (decideL (l.drop (k + 1)) user action resource) = R) := Lib.hid (by have := HE.out; simpa using this)
          go_wp2_with fail
          refine (HC2.out _ HQ3.out).mono ?_
          rintro e w4 ⟨rfl, hq4⟩
          have HQ4 := Lib.hid (HQ2.out.trans (HQ3.out.trans hq4))
          clear hq4 y2 HE
          go_wp2_with fail
          go_roundw
          case rel => exact ⟨k + 1, O, by omega, hO, rfl, by go_num, Lib.hid ⟨HQ4.out, HN.out⟩⟩
          case measure => simp [intOf]; omega
        | true =>
          go_wp2_with fail
          refine (HC2.out _ HQ3.out).mono ?_
          rintro e w4 ⟨rfl, hq4⟩
          have HQ4 := Lib.hid (HQ3.out.trans hq4)
          have y3 : w4.cell? ⟨M, 3, none⟩ = some (.slice A3 ress.length c3) := by rw [cell_of_row _ _ _ _ _ _ (HQ4.out.block HBx.out)]; rfl
          clear hq4 y2
          cases r3 with
          | false =>
            have HN : Hid (max O (decideL (l.drop (k + 1)) user action resource) = R) := Lib.hid (by have := HE.out; simpa using this)
            go_wp2_with fail
            refine (HC3.out _ HQ4.out).mono ?_
            rintro e w5 ⟨rfl, hq5⟩
            have HQ5 := Lib.hid (HQ2.out.trans (HQ4.out.trans hq5))
            clear hq5 y3 HE
            go_wp2_with fail
            go_roundw
            case rel => exact ⟨k + 1, O, by omega, hO, rfl, by go_num, Lib.hid ⟨HQ5.out, HN.out⟩⟩
            case measure => simp [intOf]; omega
          | true =>
            go_wp2_with fail
            refine (HC3.out _ HQ4.out).mono ?_
            rintro e w5 ⟨rfl, hq5⟩
            have HQ5 := Lib.hid (HQ2.out.trans (HQ4.out.trans hq5))
            have y0 : w5.cell? ⟨M, 0, none⟩ = some (.bool al) := by rw [cell_of_row _ _ _ _ _ _ ((HQ4.out.trans hq5).block HBx.out)]; rfl
            clear hq5 y3
            cases al with
            | true =>
              have HN : Hid (max 1 (decideL (l.drop (k + 1)) user action resource) = R) := Lib.hid (by have := HE.out; simp at this; omega)
              clear HE
              go_wp2_with fail
              go_roundw
              case rel => exact ⟨k + 1, 1, by omega, by omega, rfl, by go_num, Lib.hid ⟨HQ5.out, HN.out⟩⟩
              case measure => simp [intOf]; omega
            | false =>
              have HN : Hid (R = 2) := Lib.hid (by have := HE.out; simp at this; omega)
              clear HE
              go_wp2_with fail
              go_ret
              rw [HN.out]
              exact ⟨rfl, HB.out.2.2.2.trans HQ5.out⟩
    · have hd : decide (k < l.length) = false := by simpa using hlt
      have HX : Hid (R = O) := Lib.hid (by
        have := HI.out.2
        rw [List.drop_of_length_le (by omega)] at this
        simp [decideL] at this; omega)
      have HQ := Lib.hid (HB.out.2.2.2.trans HI.out.1)
      clear HI
      go_wp2_with fail
      go_ret
      rw [HX.out]
      exact ⟨rfl, HQ.out⟩
end Go.Proofs.YtlhhiiemojhjdaaGreatDoor
set_option linter.unusedVariables false
set_option linter.unusedSimpArgs false
namespace Go.Proofs.YtlhhiiemojhjdaaGreatDoor
open Go Go.RowKit Go.Extern.Stop Go.Stop Go.Extern
theorem errNone_any (w : World) : Calls Tryz.prog 33 #[] w fun e w' => e = .returned (.iface 34 (.int .i64 58)) ∧ Q w w' := by
  go_enter Tryz.func33, Tryz.ntmps33
  go_wp2_with fail
  go_ret
  exact ⟨rfl, Q.refl w⟩
theorem equal_errno (d : Nat) (a b : Int) (w : World) : (Op.equalIn (d + 2) 27 (.iface 34 (.int .i64 a)) (.iface 34 (.int .i64 b))).run Tryz.prog w = .ok (a == b) w := by
  have hn : Tryz.prog.underlying 34 = some (.int .i64) := by kernel_rfl
  obtain ⟨i, hi, hc⟩ : ∃ i, Tryz.prog.info? 34 = some i ∧ i.comparable = true := by
    have h : (Tryz.prog.info? 34).map (·.comparable) = some true := by kernel_rfl
    obtain ⟨i, hi, hc⟩ := Option.map_eq_some_iff.1 h
    exact ⟨i, hi, hc⟩
  simp [Op.equalIn, run_underlying Tryz.underlying27, run_underlying hn, typeInfo, hi, hc]
theorem eql_errno (a b : Int) (w : World) : (binOp .eql 27 (.iface 34 (.int .i64 a)) (.iface 34 (.int .i64 b))).run Tryz.prog w = .ok (.bool (a == b)) w := by
  simp only [binOp]
  simp [Op.equal, Op.maxDepth, equal_errno 9998 a b w]
theorem callTypeOfE (n : Int) (w : World) : (callFunc 19 #[.iface 34 (.int .i64 n)]).run Tryz.prog w = .ok (.value (.iface 79 (.agg #[.pointer (some ⟨3, 34, none⟩)]))) w := by kernel_rfl
theorem callComparableE (w : World) : (callFunc 118 #[.agg #[.pointer (some ⟨3, 34, none⟩)]]).run Tryz.prog w = .ok (.value (.bool true)) w := by kernel_rfl
theorem mComparableE (v : Value) (w : World) : (Go.method 277 79 v "Comparable").run Tryz.prog w = .ok (118, v) w := by kernel_rfl
theorem hasIsF (v : Value) (xT : TypeId) (w : World) : (Instr.typeAssert (.iface 32 v) xT 81 true).run Tryz.prog w = .ok (.tuple #[.iface 32 v, .bool true]) w := run_typeAssert_hasB Tryz.underlying81 (by kernel_rfl) v xT w
theorem hasUnF (v : Value) (xT : TypeId) (w : World) : (Instr.typeAssert (.iface 32 v) xT 84 true).run Tryz.prog w = .ok (.tuple #[.iface 32 v, .bool true]) w := run_typeAssert_hasB Tryz.underlying84 (by kernel_rfl) v xT w
theorem lackIsJ (v : Value) (xT : TypeId) (w : World) : (Instr.typeAssert (.iface 110 v) xT 81 true).run Tryz.prog w = .ok (.tuple #[.nilIface, .bool false]) w := run_typeAssert_lacksB Tryz.underlying81 (by kernel_rfl) (by kernel_rfl) v xT w
theorem lackUnJ (v : Value) (xT : TypeId) (w : World) : (Instr.typeAssert (.iface 110 v) xT 84 true).run Tryz.prog w = .ok (.tuple #[.nilIface, .bool false]) w := run_typeAssert_lacksB Tryz.underlying84 (by kernel_rfl) (by kernel_rfl) v xT w
theorem hasUnJ (v : Value) (xT : TypeId) (w : World) : (Instr.typeAssert (.iface 110 v) xT 85 true).run Tryz.prog w = .ok (.tuple #[.iface 110 v, .bool true]) w := run_typeAssert_hasB Tryz.underlying85 (by kernel_rfl) v xT w
theorem mIsF (v : Value) (w : World) : (Go.method 277 32 v "Is").run Tryz.prog w = .ok (112, v) w := by kernel_rfl
theorem mUnF (v : Value) (w : World) : (Go.method 277 32 v "Unwrap").run Tryz.prog w = .ok (113, v) w := by kernel_rfl
theorem mUnJ (v : Value) (w : World) : (Go.method 277 110 v "Unwrap").run Tryz.prog w = .ok (128, v) w := by kernel_rfl
theorem asErrnoE (n : Int) (w : World) : (Instr.typeAssert (.iface 34 (.int .i64 n)) 27 34 true).run Tryz.prog w = .ok (.tuple #[.int .i64 n, .bool true]) w := by kernel_rfl
theorem FaultJ.c {w : World} {b : Nat} {c a : Int} (h : FaultJ w b c a) : w.cell? ⟨b, 0, none⟩ = some (.int .i64 c) ∧ w.cell? ⟨b, 1, none⟩ = some (.int .i64 a) ∧ w.cell? ⟨b, 2, none⟩ = some .nilIface :=
  ⟨by rw [cell_of_row _ _ _ _ _ _ h]; rfl, by rw [cell_of_row _ _ _ _ _ _ h]; rfl, by rw [cell_of_row _ _ _ _ _ _ h]; rfl⟩
theorem faultIsE (b : Nat) (c a t : Int) (w : World) (h : FaultJ w b c a) : Calls Tryz.prog 112 #[.pointer (some ⟨b, 0, none⟩), .iface 34 (.int .i64 t)] w fun e w' => e = .returned (.bool (t == c)) ∧ Q w w' := by
  obtain ⟨c0, _, _⟩ := h.c
  have hA := asErrnoE
  clear h
  by_cases ht : t = c
  · subst ht
    go_enter Tryz.func112, Tryz.ntmps112
    go_wp2_with fail
    go_ret
    exact ⟨by simp, Q.refl w⟩
  · have g : (t == c) = false := by simpa using ht
    go_enter Tryz.func112, Tryz.ntmps112
    go_wp2_with fail
    go_ret
    exact ⟨by simp [g], Q.refl w⟩
theorem faultUnE (b : Nat) (c a : Int) (w : World) (h : FaultJ w b c a) : Calls Tryz.prog 113 #[.pointer (some ⟨b, 0, none⟩)] w fun e w' => e = .returned .nilIface ∧ Q w w' := by
  obtain ⟨_, _, c2⟩ := h.c
  clear h
  go_enter Tryz.func113, Tryz.ntmps113
  go_wp2_with fail
  go_ret
  exact ⟨rfl, Q.refl w⟩
theorem isFault_any (b : Nat) (c a t : Int) (w : World) (h : FaultJ w b c a) : Calls Tryz.prog 20 #[.iface 32 (.pointer (some ⟨b, 0, none⟩)), .iface 34 (.int .i64 t), .bool true] w fun e w' => e = .returned (.bool (t == c)) ∧ Q w w' := by
  have hty := run_eql_iface_types (P := Tryz.prog) 32 34 (.pointer (some ⟨b, 0, none⟩)) (.int .i64 t) Tryz.underlying27 (by decide)
  have hI := hasIsF
  have mI := mIsF
  have hU := hasUnF
  have mU := mUnF
  have H := Lib.hid h
  have HIs : Hid (∀ W, Q w W → Calls Tryz.prog 112 #[.pointer (some ⟨b, 0, none⟩), .iface 34 (.int .i64 t)] W fun e w' => e = .returned (.bool (t == c)) ∧ Q W w') := Lib.hid (fun W hq => faultIsE b c a t W (h.q hq))
  clear h
  obtain ⟨r, hr⟩ : ∃ r, (t == c) = r := ⟨_, rfl⟩
  rw [hr] at HIs
  rw [hr]
  clear hr
  go_enter Tryz.func20, Tryz.ntmps20
  go_wp2
  refine wp_loop_rounds 1 ?_
  rw [rounds_succ]
  cases r with
  | true =>
    go_wp2_with (go_at_call 112; refine (HIs.out _ (Q.refl _)).mono ?_; rintro e w1 ⟨rfl, hq1⟩)
    go_ret
    exact ⟨rfl, hq1⟩
  | false =>
    go_wp2_with (first | (go_at_call 112; refine (HIs.out _ (Q.refl _)).mono ?_; rintro e w1 ⟨rfl, hq1⟩) | (go_at_call 113; refine (faultUnE b c a _ (H.out.q hq1)).mono ?_; rintro e w2 ⟨rfl, hq2⟩))
    go_ret
    exact ⟨rfl, hq1.trans hq2⟩
theorem isErrno_any (t : Int) (w : World) : Calls Tryz.prog 20 #[.iface 34 (.int .i64 t), .iface 34 (.int .i64 t), .bool true] w fun e w' => e = .returned (.bool true) ∧ Q w w' := by
  have he : ∀ w, (binOp .eql 27 (.iface 34 (.int .i64 t)) (.iface 34 (.int .i64 t))).run Tryz.prog w = .ok (.bool true) w := fun w => by rw [eql_errno]; simp
  go_enter Tryz.func20, Tryz.ntmps20
  go_wp2
  refine wp_loop_rounds 1 ?_
  rw [rounds_succ]
  go_wp2
  go_ret
  exact ⟨rfl, Q.refl w⟩
def JoinE (w : World) (b : Nat) : Prop := ∃ g n c, 0 < n ∧ n ≤ 3 ∧ n ≤ c ∧ c ≤ 9223372036854775807 ∧ w.heap[b]? = some (.cells #[.slice (some ⟨g, 0, none⟩) n c] 112 (0, 0)) ∧ ∀ i, i < n → w.cell? ⟨g, i, none⟩ = some (.iface 34 (.int .i64 58))
theorem JoinE.q {w w' : World} {b : Nat} (h : JoinE w b) (hq : Q w w') : JoinE w' b := by
  obtain ⟨g, n, c, h0, h1, h2, h3, h4, h5⟩ := h
  exact ⟨g, n, c, h0, h1, h2, h3, hq.block h4, fun i hi => hq.cell (h5 i hi)⟩
theorem joinUn_any (b g n c : Nat) (w : World) (h : w.heap[b]? = some (.cells #[.slice (some ⟨g, 0, none⟩) n c] 112 (0, 0))) : Calls Tryz.prog 128 #[.pointer (some ⟨b, 0, none⟩)] w fun e w' => e = .returned (.slice (some ⟨g, 0, none⟩) n c) ∧ Q w w' := by
  have c0 : w.cell? ⟨b, 0, none⟩ = some (.slice (some ⟨g, 0, none⟩) n c) := by rw [cell_of_row _ _ _ _ _ _ h]; rfl
  clear h
  go_enter Tryz.func128, Tryz.ntmps128
  go_wp2_with fail
  go_ret
  exact ⟨rfl, Q.refl w⟩
theorem isJoin_any (b : Nat) (w : World) (h : JoinE w b) : Calls Tryz.prog 20 #[.iface 110 (.pointer (some ⟨b, 0, none⟩)), .iface 34 (.int .i64 58), .bool true] w fun e w' => e = .returned (.bool true) ∧ Q w w' := by
  have hty := run_eql_iface_types (P := Tryz.prog) 110 34 (.pointer (some ⟨b, 0, none⟩)) (.int .i64 58) Tryz.underlying27 (by decide)
  have hI := lackIsJ
  have hU := lackUnJ
  have hU2 := hasUnJ
  have mU := mUnJ
  obtain ⟨g, n, c, h0, h1, h2, h3, h4, h5⟩ := h
  have x0 := h5 0 h0
  have H4 := Lib.hid h4
  have hn : decide ((0 : Int) < (n : Int)) = true := by simp; omega
  have hn' : decide (0 < n) = true := by simp; omega
  clear h4 h5
  go_enter Tryz.func20, Tryz.ntmps20
  go_wp2
  refine wp_loop_rounds 1 ?_
  rw [rounds_succ]
  go_wp2_with (go_at_call 128; refine (joinUn_any b g n c _ H4.out).mono ?_; rintro e w1 ⟨rfl, hq1⟩)
  have HQ1 := Lib.hid hq1
  replace x0 := hq1.cell x0
  clear hq1 hty hI hU hU2 mU
  refine wp_loop_rounds 1 ?_
  rw [rounds_succ]
  go_wp2_with (go_at_call 20; refine (isErrno_any 58 _).mono ?_; rintro e w2 ⟨rfl, hq2⟩)
  go_ret
  exact ⟨rfl, HQ1.out.trans hq2⟩
theorem Is_of (t : Int) (tx : TypeId) (vx : Value) (r : Bool) (w : World) (h : ∀ W, Q w W → Calls Tryz.prog 20 #[.iface tx vx, .iface 34 (.int .i64 t), .bool true] W fun e w' => e = .returned (.bool r) ∧ Q W w') :
    Calls Tryz.prog 9 #[.iface tx vx, .iface 34 (.int .i64 t)] w fun e w' => e = .returned (.bool r) ∧ Q w w' := by
  have tT := callTypeOfE
  have cT := callComparableE
  have mC := mComparableE
  have H := Lib.hid h
  clear h
  go_enter Tryz.func9, Tryz.ntmps9
  go_wp2_with (go_at_call 20; refine (H.out _ (Q.refl _)).mono ?_; rintro e w' ⟨rfl, hq⟩)
  go_ret
  exact ⟨rfl, hq⟩
def WrongE (w : World) (x : Option (Int × Int)) (v : Value) : Prop :=
  match x with
  | some (c, a) => c ≠ 58 ∧ ∃ b, v = .iface 32 (.pointer (some ⟨b, 0, none⟩)) ∧ FaultJ w b c a
  | none => v = .iface 34 (.int .i64 58) ∨ ∃ b, v = .iface 110 (.pointer (some ⟨b, 0, none⟩)) ∧ JoinE w b
theorem WrongE.q {w w' : World} {x : Option (Int × Int)} {v : Value} (h : WrongE w x v) (hq : Q w w') : WrongE w' x v := by
  rcases x with _ | ⟨c, a⟩
  · rcases h with h | ⟨b, h1, h2⟩
    · exact .inl h
    · exact .inr ⟨b, h1, h2.q hq⟩
  · obtain ⟨h0, b, h1, h2⟩ := h
    exact ⟨h0, b, h1, h2.q hq⟩
theorem WrongE.is {w : World} {x : Option (Int × Int)} {v : Value} (h : WrongE w x v) : ∃ tx vx, v = .iface tx vx ∧ Calls Tryz.prog 9 #[.iface tx vx, .iface 34 (.int .i64 58)] w fun e w' => e = .returned (.bool x.isNone) ∧ Q w w' := by
  rcases x with _ | ⟨c, a⟩
  · rcases h with rfl | ⟨b, rfl, h2⟩
    · exact ⟨_, _, rfl, Is_of 58 _ _ true w (fun W hq => isErrno_any 58 W)⟩
    · exact ⟨_, _, rfl, Is_of 58 _ _ true w (fun W hq => isJoin_any b W (h2.q hq))⟩
  · obtain ⟨h0, b, rfl, h2⟩ := h
    refine ⟨_, _, rfl, Is_of 58 _ _ false w (fun W hq => ?_)⟩
    have := isFault_any b c a 58 W (h2.q hq)
    have e : ((58 : Int) == c) = false := by simpa using fun h => h0 h.symm
    rw [e] at this
    exact this
def RefE (w : World) (x : Option (Int × Int)) (v : Value) : Prop :=
  ∃ b, v = .iface 32 (.pointer (some ⟨b, 0, none⟩)) ∧
    match x with
    | none => FaultJ w b 58 0
    | some (c, a) => ∃ d, w.heap[b]? = some (.cells #[.int .i64 58, .int .i64 0, .iface 32 (.pointer (some ⟨d, 0, none⟩))] 36 (0, 0)) ∧ FaultJ w d c a
theorem RefE.q {w w' : World} {x : Option (Int × Int)} {v : Value} (h : RefE w x v) (hq : Q w w') : RefE w' x v := by
  obtain ⟨b, h1, h2⟩ := h
  refine ⟨b, h1, ?_⟩
  rcases x with _ | ⟨c, a⟩
  · exact FaultJ.q h2 hq
  · obtain ⟨d, h3, h4⟩ := h2
    exact ⟨d, hq.block h3, h4.q hq⟩
theorem refused_any (x : Option (Int × Int)) (v : Value) (w : World) (h : WrongE w x v) : Calls Tryz.prog 17 #[v] w fun e w' => (∃ u, e = .returned u ∧ RefE w' x u) ∧ Q w w' := by
  have hq0 : Q w (w.alloc (.cells #[.int .i64 58, .int .i64 0, .nilIface] 36)) := (Q.refl w).alloc _
  have hb0 := heap_alloc_new w (.cells #[.int .i64 58, .int .i64 0, .nilIface] 36)
  obtain ⟨tx, vx, rfl, hI⟩ := (h.q hq0).is
  have H := Lib.hid h
  have HI := Lib.hid hI
  obtain ⟨W, hW⟩ : ∃ W, w.alloc (.cells #[.int .i64 58, .int .i64 0, .nilIface] 36) = W := ⟨_, rfl⟩
  obtain ⟨N, hN⟩ : ∃ N, w.heap.size = N := ⟨_, rfl⟩
  rw [hW] at hq0 hb0 HI
  rw [hN] at hb0
  have HQ0 := Lib.hid hq0
  have HB0 := Lib.hid hb0
  clear h hI hq0 hb0
  go_enter Tryz.func17, Tryz.ntmps17
  go_upto_region 2 with (fail)
  have HNl : Hid (w.heap.size ≤ N) := Lib.hid (Nat.le_of_eq hN)
  clear hW hN
  rcases x with _ | ⟨c, a⟩
  · go_wp2_with fail
    refine HI.out.mono ?_
    rintro e w1 ⟨rfl, hq1⟩
    have HQ1 := Lib.hid (HQ0.out.trans hq1)
    have HF : Hid (RefE w1 none (.iface 32 (.pointer (some ⟨N, 0, none⟩)))) := Lib.hid ⟨N, rfl, hq1.block HB0.out⟩
    clear hq1
    go_wp2_with fail
    go_ret
    exact ⟨⟨_, rfl, HF.out⟩, HQ1.out⟩
  · go_wp2_with fail
    refine HI.out.mono ?_
    rintro e w1 ⟨rfl, hq1⟩
    have hb1 := hq1.block HB0.out
    have c2 : w1.cell? ⟨N, 2, none⟩ = some .nilIface := by rw [cell_of_row _ _ _ _ _ _ hb1]; rfl
    have f2 := frozen_of_row w1 N 2 _ _ hb1
    have HQ1 := Lib.hid (HQ0.out.trans hq1)
    have HX : Hid (RefE (w1.setCell ⟨N, 2, none⟩ (.iface tx vx)) (some (c, a)) (.iface 32 (.pointer (some ⟨N, 0, none⟩))) ∧ Q w (w1.setCell ⟨N, 2, none⟩ (.iface tx vx))) := Lib.hid (by
      obtain ⟨h0, d, h1, h2⟩ := H.out
      cases h1
      have hdl : d < w.heap.size := lt_of_heap h2
      have hN := HNl.out
      refine ⟨⟨N, rfl, d, ?_, ?_⟩, HQ1.out.setNew (by show w.heap.size ≤ N; exact hN) _⟩
      · rw [heap_setCell_any _ N 2 _ _ _ _ hb1]; rfl
      · exact FaultJ.q h2 (HQ1.out.setNew (by show w.heap.size ≤ N; exact hN) _))
    clear hq1 hb1
    go_wp2_with fail
    go_ret
    exact ⟨⟨_, rfl, HX.out.1⟩, HX.out.2⟩
end Go.Proofs.YtlhhiiemojhjdaaGreatDoor
set_option linter.unusedVariables false
set_option linter.unusedSimpArgs false
namespace Go.Proofs.YtlhhiiemojhjdaaGreatDoor
open Go Go.RowKit
def erV (b : Bool) : Value := if b then .iface 34 (.int .i64 58) else .nilIface
def cntB (l : List Bool) : Nat := (l.filter id).length
theorem cnt_take {l : List Bool} {k : Nat} (h : k < l.length) : cntB (l.take (k + 1)) = cntB (l.take k) + (if l.getD k false then 1 else 0) := by
  unfold cntB
  rw [List.take_succ_eq_append_getElem h, List.filter_append, List.length_append]
  have : l.getD k false = l[k] := by simp [List.getD, h]
  rw [this]
  cases l[k] <;> simp
theorem cnt_le (l : List Bool) : cntB l ≤ l.length := List.length_filter_le _ _
theorem cnt_any (l : List Bool) : l.any id = decide (0 < cntB l) := by
  unfold cntB
  induction l with
  | nil => rfl
  | cons a l ih =>
    cases a
    · rw [List.any_cons, ih]; simp
    · simp
theorem info_err : (Tryz.prog.info? 27).map (fun i => (i.zero, i.size, i.bytes)) = some (some .nilIface, 1, 16) := by kernel_rfl
def JoinP (bs : List Bool) (w : World) (e : Ending) (w' : World) : Prop := Q w w' ∧ ((bs.any id = false ∧ e = .returned .nilIface) ∨ (bs.any id = true ∧ ∃ b, e = .returned (.iface 110 (.pointer (some ⟨b, 0, none⟩))) ∧ JoinE w' b))
def JnSt (w0 : World) (b n : Nat) (v : Value) (wx : World) : Prop := wx.heap[b]? = some (.cells #[v] 112 (0, 0)) ∧ wx.ownsRow w0.heap.size 27 1 v n (List.replicate n (erV true)) ∧ Q w0 wx
theorem JnSt.next {w0 wx w' : World} {b n : Nat} {v v' : Value} (h : JnSt w0 b n v wx) (hg : wx.grownBy w' v.ownBlock) (ho : w'.ownsRow w0.heap.size 27 1 v' (n + 1) (List.replicate n (erV true) ++ [erV true])) (hb : w0.heap.size ≤ b) : JnSt w0 b (n + 1) v' (w'.setCell ⟨b, 0, none⟩ v') ∧ w'.heap[b]? = some (.cells #[v] 112 (0, 0)) := by
  obtain ⟨h1, h2, h3⟩ := h
  have hne : ∀ g, v.ownBlock = some g → g ≠ b := by
    intro g hg e
    subst e
    rcases h2.2 with ⟨hv, _⟩ | ⟨g', cap, cur, hv, _, hh, _⟩
    · rw [hv] at hg; cases hg
    · have : g' = g := by rw [hv] at hg; simpa [Value.ownBlock] using hg
      subst this
      rw [h1] at hh; injection hh with hh; injection hh with _ hh _; cases hh
  have hb' : w'.heap[b]? = some (.cells #[v] 112 (0, 0)) := by
    rw [hg.block b (lt_of_heap h1) ?_]; exact h1
    intro e
    exact hne b e.symm rfl
  have hq : Q w0 w' := h3.grown hg (by exact h3.size) (fun k hk => by
    rcases h2.2 with ⟨hv, _⟩ | ⟨g', cap, cur, hv, h, _⟩
    · rw [hv] at hk; cases hk
    · have : g' = k := by rw [hv] at hk; simpa [Value.ownBlock] using hk
      subst this; exact h)
  refine ⟨⟨?_, ?_, hq.setNew (by show w0.heap.size ≤ b; exact hb) _⟩, hb'⟩
  · rw [heap_setCell_any _ b 0 _ _ _ _ hb']; rfl
  · rw [List.replicate_succ']
    refine ownsRow_frame ho (fun k hk hs => ?_)
    unfold World.setCell
    simp only [Array.getElem?_modify]
    rw [if_neg]
    intro e
    have e : b = k := e
    subst e
    rcases ho.2 with ⟨hv, _⟩ | ⟨g', cap, cur, hv, _, hh, _⟩
    · rw [hv] at hk; cases hk
    · have : g' = b := by rw [hv] at hk; simpa [Value.ownBlock] using hk
      subst this
      rw [hb'] at hh; injection hh with hh; injection hh with _ hh _; cases hh
theorem JnSt.join {w0 wx : World} {b n : Nat} {v : Value} (h : JnSt w0 b n v wx) (h0 : 0 < n) (h3 : n ≤ 3) : JoinE wx b := by
  obtain ⟨h1, h2, _⟩ := h
  rcases h2.2 with ⟨_, hn⟩ | ⟨g, cap, cur, rfl, _, hh, hn, hm, hcs, ht⟩
  · omega
  · refine ⟨g, n, cap, h0, h3, hn, Nat.le_trans hm (by decide), h1, fun i hi => ?_⟩
    rw [cell_of_row _ _ _ _ _ _ hh, ← Array.getElem?_toList]
    have : (cur.toList.take (n * 1))[i]? = some (erV true) := by rw [ht]; simp [hi]
    rw [List.getElem?_take, if_pos (by omega)] at this
    exact this
theorem JnSt.new (w0 wa : World) (N : Nat) (hq : Q w0 wa) (hN : N ≤ 3) : JnSt w0 (wa.heap.size + 1) 0 (.slice (some ⟨wa.heap.size, 0, none⟩) 0 N) ((wa.alloc (.cells (madeCells #[.nilIface] N) 27)).alloc (.cells #[.slice (some ⟨wa.heap.size, 0, none⟩) 0 N] 112)) := by
  have h1 := heap_alloc_new (wa.alloc (.cells (madeCells #[.nilIface] N) 27)) (.cells #[.slice (some ⟨wa.heap.size, 0, none⟩) 0 N] 112)
  have h2 := heap_alloc_new wa (.cells (madeCells #[.nilIface] N) 27)
  have hs : (wa.alloc (.cells (madeCells #[.nilIface] N) 27)).heap.size = wa.heap.size + 1 := by simp
  rw [hs] at h1
  refine ⟨h1, ⟨by simp, .inr ⟨wa.heap.size, N, madeCells #[.nilIface] N, rfl, hq.size, ((Q.refl _).alloc _).block h2, Nat.zero_le _, by unfold maxLen; omega, by rw [size_madeCells]; omega, by simp⟩⟩, (hq.alloc _).alloc _⟩
set_option maxRecDepth 100000 in
theorem Join_any (bs : List Bool) (g c : Nat) (w : World) (hm : bs.length ≤ 3) (hc : bs.length ≤ c) (hc2 : c ≤ 140737488355328) (hx : ∀ k, k < bs.length → w.cell? ⟨g, k, none⟩ = some (erV (bs.getD k false))) :
    Calls Tryz.prog 50 #[.slice (some ⟨g, 0, none⟩) bs.length c] w (JoinP bs w) := by
  have HX := Lib.hid hx
  have HC := Lib.hid hc2
  obtain ⟨m, hml⟩ : ∃ m, bs.length = m := ⟨_, rfl⟩
  have HML := Lib.hid hml
  rw [hml] at hm hc ⊢
  have HCE := Lib.hid (cnt_le bs)
  clear hx hml hc2
  go_enter Tryz.func50, Tryz.ntmps50
  go_wp2_with fail
  go_loopw [3, 11] (fun n i wx => ∃ k N : Nat, k ≤ m ∧ N ≤ k ∧ n = .int .i64 (N : Int) ∧ i = .int .i64 (k : Int) ∧ Hid (cntB (bs.take k) = N ∧ Q w wx)) (fun _ i _ => m - (intOf i).toNat)
  case atStart => exact ⟨0, 0, by omega, by omega, rfl, rfl, Lib.hid ⟨rfl, Q.refl w⟩⟩
  case round =>
    obtain ⟨k, N, hk, hN, rfl, rfl, HI⟩ := hrel
    rename World => wa
    by_cases hlt : k < m
    · have hd : decide (k < m) = true := by simpa using hlt
      have x0 := HI.out.2.cell (HX.out k (by rw [HML.out]; exact hlt))
      have hct := cnt_take (l := bs) (k := k) (by rw [HML.out]; exact hlt)
      rw [HI.out.1] at hct
      obtain ⟨r, hr⟩ : ∃ r, bs.getD k false = r := ⟨_, rfl⟩
      rw [hr] at x0 hct
      cases r with
      | true =>
        have HN : Hid (cntB (bs.take (k + 1)) = N + 1 ∧ Q w wa) := Lib.hid ⟨by simpa using hct, HI.out.2⟩
        simp only [erV, if_true] at x0
        clear hr hct HI
        go_wp2_with fail
        go_roundw
        case rel => exact ⟨k + 1, N + 1, by omega, by omega, by go_num, by go_num, HN⟩
        case measure => simp [intOf]; omega
      | false =>
        have HN : Hid (cntB (bs.take (k + 1)) = N ∧ Q w wa) := Lib.hid ⟨by simpa using hct, HI.out.2⟩
        have x0' : wa.cell? ⟨g, k, none⟩ = some .nilIface := x0
        clear hr hct HI x0
        go_wp2_with fail
        go_roundw
        case rel => exact ⟨k + 1, N, by omega, by omega, rfl, by go_num, HN⟩
        case measure => simp [intOf]; omega
    · have hd : decide (k < m) = false := by simpa using hlt
      have hkm : k = m := by omega
      have HCN : Hid (cntB bs = N) := Lib.hid (by have := HI.out.1; rw [List.take_of_length_le (by rw [HML.out]; omega)] at this; exact this)
      have HQ := Lib.hid HI.out.2
      clear HI hkm
      by_cases h0 : N = 0
      · subst h0
        have HR : Hid (JoinP bs w (.returned .nilIface) wa) := Lib.hid ⟨HQ.out, .inl ⟨by rw [cnt_any, HCN.out]; rfl, rfl⟩⟩
        go_wp2_with fail
        go_ret
        exact HR.out
      · have hN0 : (((N : Int)) == 0) = false := by simp; omega
        have hN0' : ¬ ((N : Int) = 0) := by omega
        have hmk := run_make_room 86 27 .nilIface 16 Tryz.underlying86 info_err rfl .i64 .i64 N (by omega) (by omega) wa (P := Tryz.prog)
        go_wp2_with fail
        have HS0 := Lib.hid (JnSt.new w wa N HQ.out (by omega))
        have HB : Hid (w.heap.size ≤ wa.heap.size + 1) := Lib.hid (by have := HQ.out.size; omega)
        obtain ⟨W, hW⟩ : ∃ W, ((wa.alloc (.cells (madeCells #[.nilIface] N) 27)).alloc (.cells #[.slice (some ⟨wa.heap.size, 0, none⟩) 0 N] 112)) = W := ⟨_, rfl⟩
        obtain ⟨B, hB⟩ : ∃ B, wa.heap.size + 1 = B := ⟨_, rfl⟩
        rw [hW, hB] at HS0
        rw [hB] at HB
        rw [hW, hB]
        clear hW hB hmk
        obtain ⟨ti, hi, hz0, hz1, hz2⟩ := info_parts info_err
        go_loopw [28] (fun i wx => ∃ k v, k ≤ m ∧ i = .int .i64 ((k : Nat) : Int) ∧ Hid (JnSt w B (cntB (bs.take k)) v wx)) (fun i _ => m - (intOf i).toNat)
        case atStart => exact ⟨0, _, by omega, rfl, HS0⟩
        case round =>
          obtain ⟨k, v, hk, rfl, HI⟩ := hrel
          rename World => wb
          by_cases hlt : k < m
          · have hd : decide (k < m) = true := by simpa using hlt
            have x0 := HI.out.2.2.cell (HX.out k (by rw [HML.out]; exact hlt))
            have hct := cnt_take (l := bs) (k := k) (by rw [HML.out]; exact hlt)
            obtain ⟨r, hr⟩ : ∃ r, bs.getD k false = r := ⟨_, rfl⟩
            rw [hr] at x0 hct
            cases r with
            | false =>
              have HN : Hid (JnSt w B (cntB (bs.take (k + 1))) v wb) := Lib.hid (by rw [hct]; exact HI.out)
              have x0' : wb.cell? ⟨g, k, none⟩ = some .nilIface := x0
              clear hr hct HI x0
              go_wp2_with fail
              go_roundw
              case rel => exact ⟨k + 1, v, by omega, by go_num, HN⟩
              case measure => simp [intOf]; omega
            | true =>
              simp only [erV, if_true] at x0
              have HCT := Lib.hid hct
              obtain ⟨A, cp, hv⟩ := row_form' HI.out.2.1
              obtain ⟨n, hn⟩ : ∃ n, cntB (bs.take k) = n := ⟨_, rfl⟩
              rw [hn] at HI hv HCT
              have hnm : n ≤ 3 := by rw [← hn]; exact Nat.le_trans (cnt_le _) (by rw [List.length_take]; omega)
              subst hv
              have y0 : wb.cell? ⟨B, 0, none⟩ = some (.slice A n cp) := by rw [cell_of_row _ _ _ _ _ _ HI.out.1]; rfl
              clear hr hct hn
              have hct2 : cntB (bs.take (k + 1)) = n + 1 := by simpa using HCT.out
              have HCT2 := Lib.hid hct2
              clear HCT hct2
              have HNw : Hid (∀ (j : Nat) u, [erV true][j]? = some u → (wb.alloc (.cells #[.iface 34 (.int .i64 58)] 27)).cell? ((⟨wb.heap.size, 0, none⟩ : Addr).add j) = some u) := Lib.hid (fun j u hj => by
                rcases j with _ | j
                · simp at hj; subst hj
                  show World.cell? _ ⟨wb.heap.size, 0, none⟩ = _
                  rw [cell_of_row _ _ _ _ _ _ (heap_alloc_new wb _)]; rfl
                · simp at hj)
              have HBs : Hid (w.heap.size ≤ (wb.alloc (.cells #[.iface 34 (.int .i64 58)] 27)).heap.size) := Lib.hid (by have := HI.out.2.2.size; simp; omega)
              have HI2 : Hid (JnSt w B n (.slice A n cp) (wb.alloc (.cells #[.iface 34 (.int .i64 58)] 27))) := Lib.hid ⟨((Q.refl wb).alloc _).block HI.out.1, World.ownsRow.alloc HI.out.2.1 _, HI.out.2.2.alloc _⟩
              go_upto_region 15 with (fail)
              go_wp2_with (at_builtin; refine wpList_append_own (w := wb.alloc (.cells #[.iface 34 (.int .i64 58)] 27)) rfl (.tmp 38) (.tmp 40) 86 rfl w.heap.size 27 ti .nilIface 1 16 Tryz.underlying86 hi hz0 hz1 hz2 rfl (by decide) (.slice A n cp) n (List.replicate n (erV true)) rfl HI2.out.2.1 ⟨wb.heap.size, 0, none⟩ 1 1 [erV true] rfl rfl HNw.out (by simp [erV, Value.oneCell']) (by unfold maxLen; omega) (by omega) HBs.out ?_)
              intro v' w' hown hgrow _
              have hnx := HI2.out.next hgrow hown HB.out
              have y1 : w'.cell? ⟨B, 0, none⟩ = some (.slice A n cp) := by rw [cell_of_row _ _ _ _ _ _ hnx.2]; rfl
              have f1 := frozen_of_row w' B 0 _ _ hnx.2
              have HN : Hid (JnSt w B (cntB (bs.take (k + 1))) v' (w'.setCell ⟨B, 0, none⟩ v')) := Lib.hid (by rw [HCT2.out]; exact hnx.1)
              obtain ⟨A', c', hv'⟩ := row_form' hown
              clear hnx hown hgrow HI2 HBs HNw HI y0
              subst hv'
              go_wp2_with fail
              go_roundw
              case rel => exact ⟨k + 1, _, by omega, by go_num, HN⟩
              case measure => simp [intOf]; omega
          · have hd : decide (k < m) = false := by simpa using hlt
            have hkm : k = m := by omega
            have HR : Hid (JoinP bs w (.returned (.iface 110 (.pointer (some ⟨B, 0, none⟩)))) wb) := Lib.hid (by
              have h := HI.out
              rw [List.take_of_length_le (by rw [HML.out]; omega), HCN.out] at h
              exact ⟨h.2.2, .inr ⟨by rw [cnt_any, HCN.out]; simp; omega, B, rfl, h.join (by omega) (by omega)⟩⟩)
            clear HI hkm
            go_wp2_with fail
            go_ret
            exact HR.out
end Go.Proofs.YtlhhiiemojhjdaaGreatDoor
set_option linter.unusedVariables false
set_option linter.unusedSimpArgs false
namespace Go.Proofs.YtlhhiiemojhjdaaGreatDoor
open Go Go.RowKit
def heldR (v : Value) : Option (DataW Value × List MemPlace) := some (.held v, [])
abbrev KeyS : Maps.Keyed Tryz.prog 9 := Maps.string_keyed Tryz.underlying9
theorem keyS (x : Txt) (h : x.length ≤ maxLen) : keyOf Tryz.prog 9 (.string ⟨x.toArray⟩) = some (.string x) := by
  have hu := Tryz.underlying9
  unfold keyOf
  rw [hu]
  unfold mapKey
  rw [hu]
  simp [h, ByteArray.size]
theorem keyL (x : Txt) : WideAt.IsKeyLit (.string x) := trivial
def MapJ (w : World) (l : List (Txt × JsonD)) (D : DataW Value) : Prop := Maps.IsMap D ∧ ∀ x : Txt,
  match l.lookup x with
  | none => Maps.has D (.string x) = false
  | some j => Maps.has D (.string x) = true ∧ ∃ vn vk, JV w j vn vk ∧ ∀ z, D.atKey (.string x) z = .held (.agg (cellJ j vn vk).toArray)
theorem MapJ.q {w w' : World} {l : List (Txt × JsonD)} {D : DataW Value} (h : MapJ w l D) (hq : Q w w') : MapJ w' l D := by
  refine ⟨h.1, fun x => ?_⟩
  have hx := h.2 x
  cases hl : l.lookup x with
  | none => rw [hl] at hx; exact hx
  | some j =>
    rw [hl] at hx
    obtain ⟨h1, vn, vk, h2, h3⟩ := hx
    exact ⟨h1, vn, vk, h2.q hq, h3⟩
theorem MapJ.nil (w : World) : MapJ w [] (.map []) := ⟨⟨[], rfl⟩, fun x => rfl⟩
theorem lookup_snoc (l : List (Txt × JsonD)) (n x : Txt) (j : JsonD) (h : l.lookup n = none) : (l ++ [(n, j)]).lookup x = if x = n then some j else l.lookup x := by
  induction l with
  | nil =>
    by_cases hx : x = n
    · subst hx; simp [List.lookup]
    · have : (x == n) = false := by simpa using hx
      simp [List.lookup, hx, this]
  | cons a l ih =>
    obtain ⟨m, k⟩ := a
    rw [List.cons_append, List.lookup, List.lookup]
    rw [List.lookup] at h
    by_cases hm : x = m
    · subst hm
      have hne : ¬ x = n := by
        intro e; subst e
        simp at h
      simp [hne]
    · have hxm : (x == m) = false := by simpa using hm
      rw [hxm]
      cases hnm : (n == m) with
      | true => rw [hnm] at h; cases h
      | false => rw [hnm] at h; exact ih h
theorem MapJ.put {w : World} {l : List (Txt × JsonD)} {D : DataW Value} (h : MapJ w l D) (n : Txt) (j : JsonD) (vn vk : Value) (hn : l.lookup n = none) (hj : JV w j vn vk) : MapJ w (l ++ [(n, j)]) (D.put (.string n) (.held (.agg (cellJ j vn vk).toArray))) := by
  refine ⟨h.1.put _ _, fun x => ?_⟩
  rw [lookup_snoc l n x j hn]
  by_cases hx : x = n
  · subst hx
    rw [if_pos rfl]
    exact ⟨Maps.has_put_same h.1 (keyL x) _, vn, vk, hj, fun z => Maps.atKey_put_same h.1 (keyL x) _ _⟩
  · rw [if_neg hx]
    have hne : Lit.string x ≠ Lit.string n := by intro e; injection e with e; exact hx e
    have h2 := h.2 x
    cases hl : l.lookup x with
    | none => rw [hl] at h2; exact (Maps.has_put_other hne _).trans h2
    | some k =>
      rw [hl] at h2
      obtain ⟨h3, un, uk, h4, h5⟩ := h2
      exact ⟨(Maps.has_put_other hne _).trans h3, un, uk, h4, fun z => (Maps.atKey_put_other hne _ _).trans (h5 z)⟩
def MapB (w : World) (b : Nat) (l : List (Txt × JsonD)) : Prop := ∃ n D, w.ownsMap Tryz.prog 9 heldR b n D ∧ n ≤ l.length ∧ MapJ w l D
theorem MapB.q {w w' : World} {b : Nat} {l : List (Txt × JsonD)} (h : MapB w b l) (hq : Q w w') : MapB w' b l := by
  obtain ⟨n, D, h1, h2, h3⟩ := h
  exact ⟨n, D, h1.kept (hq.gb none) (by simp), h2, h3.q hq⟩
theorem MapB.nil (w : World) : MapB (w.alloc (.map #[] 0)) w.heap.size [] := ⟨0, .map [], World.ownsMap_made _ _ _ _, Nat.le_refl _, MapJ.nil _⟩
theorem MapB.lt {w : World} {b : Nat} {l : List (Txt × JsonD)} (h : MapB w b l) : b < w.heap.size := by
  obtain ⟨n, D, h1, _⟩ := h; exact h1.lt
def orJ (o : Option JsonD) : JsonD := o.getD zeroJ
theorem zero_json (w : World) : (zeroValue 46).run Tryz.prog w = .ok (.agg zeroC.toArray) w := by kernel_rfl
theorem JV.form {w : World} {j : JsonD} {vn vk : Value} (h : JV w j vn vk) : ∃ A1 n1 c1 A2 n2 c2, vn = .slice A1 n1 c1 ∧ vk = .slice A2 n2 c2 := by
  obtain ⟨⟨A1, n1, c1, e1⟩, A2, n2, c2, e2⟩ := jv_slices h
  exact ⟨A1, n1, c1, A2, n2, c2, e1, e2⟩
theorem jv_zero (w : World) : JV w zeroJ (.slice none 0 0) (.slice none 0 0) := (jo_nil (w := w) (k := 0) (t := []) (Nat.le_refl 0)).read
theorem MapB.look {w : World} {b : Nat} {l : List (Txt × JsonD)} (h : MapB w b l) (x : Txt) (hx : x.length ≤ maxLen) : ∃ A1 n1 c1 A2 n2 c2, JV w (orJ (l.lookup x)) (.slice A1 n1 c1) (.slice A2 n2 c2) ∧
    (Instr.lookup 71 (.map (some b)) (.string ⟨x.toArray⟩) true).run Tryz.prog w = .ok (.tuple #[.agg #[.int .i64 (orJ (l.lookup x)).kind, .string ⟨(orJ (l.lookup x)).text.toArray⟩, .slice A1 n1 c1, .slice A2 n2 c2], .bool (l.lookup x).isSome]) w ∧
    (Instr.lookup 71 (.map (some b)) (.string ⟨x.toArray⟩) false).run Tryz.prog w = .ok (.agg #[.int .i64 (orJ (l.lookup x)).kind, .string ⟨(orJ (l.lookup x)).text.toArray⟩, .slice A1 n1 c1, .slice A2 n2 c2]) w := by
  obtain ⟨n, D, h1, h2, h3⟩ := h
  have hk := keyS x hx
  have hm := h3.2 x
  obtain ⟨v, ps, r1, e1⟩ := h1.look_ok KeyS Tryz.underlying71 (zero_json w) (zd := .held (.agg zeroC.toArray)) (zp := []) rfl hk
  obtain ⟨v', ps', r2, e2⟩ := h1.lookup KeyS Tryz.underlying71 (zero_json w) (zd := .held (.agg zeroC.toArray)) (zp := []) rfl hk
  unfold heldR at e1 e2
  injection e1 with e1
  injection e2 with e2
  have e1 := congrArg Prod.fst e1
  have e2 := congrArg Prod.fst e2
  simp only at e1 e2
  cases hl : l.lookup x with
  | none =>
    rw [hl] at hm
    rw [Maps.atKey_of_not_has hm] at e1 e2
    injection e1 with e1
    injection e2 with e2
    subst e1
    subst e2
    rw [hm] at r1
    exact ⟨none, 0, 0, none, 0, 0, jv_zero w, r1, r2⟩
  | some j =>
    rw [hl] at hm
    obtain ⟨g1, vn, vk, g2, g3⟩ := hm
    rw [g3] at e1 e2
    injection e1 with e1
    injection e2 with e2
    subst e1
    subst e2
    rw [g1] at r1
    obtain ⟨A1, n1, c1, A2, n2, c2, rfl, rfl⟩ := g2.form
    exact ⟨A1, n1, c1, A2, n2, c2, g2, r1, r2⟩
theorem contains_any (ns : List Txt) (x : Txt) (w : World) (vn : Value) (h : NsV w vn ns) : Calls Tryz.prog 47 #[vn, .string ⟨x.toArray⟩] w fun e w' => e = .returned (.bool (decide (x ∈ ns))) ∧ Q w w' := by
  obtain ⟨A, c, rfl⟩ := h.slice
  have HI := Lib.hid (index_name ns x w _ h)
  have key : ∀ (l : List Txt) (k : Nat), decide (0 ≤ ixN x l k) = decide (x ∈ l) := by
    intro l
    induction l with
    | nil => intro k; simp [ixN]
    | cons a l ih =>
      intro k
      rw [ixN]
      by_cases hx : x = a
      · rw [if_pos hx]; subst hx; simp
      · rw [if_neg hx, ih]; simp [hx]
  obtain ⟨R, hR⟩ : ∃ R, decide (x ∈ ns) = R := ⟨_, rfl⟩
  have hk := key ns 0
  rw [hR] at hk ⊢
  obtain ⟨I, hI⟩ : ∃ I, ixN x ns 0 = I := ⟨_, rfl⟩
  rw [hI] at hk HI
  clear key hI hR h
  go_enter Tryz.func47, Tryz.ntmps47
  go_wp2_with fail
  refine HI.out.mono ?_
  rintro e w1 ⟨rfl, hq⟩
  go_wp2_with fail
  go_ret
  exact ⟨rfl, hq⟩
end Go.Proofs.YtlhhiiemojhjdaaGreatDoor
set_option linter.unusedVariables false
set_option linter.unusedSimpArgs false
namespace Go.Proofs.YtlhhiiemojhjdaaGreatDoor
open Go Go.RowKit
theorem JV.full {w : World} {j : JsonD} {vn vk : Value} (h : JV w j vn vk) : ∃ k t ns ks A1 c1 A2 c2, j = .mk k t ns ks ∧ vn = .slice A1 ns.length c1 ∧ vk = .slice A2 ks.length c2 := by
  obtain ⟨k, t, ns, ks⟩ := j
  obtain ⟨⟨A, c, e, _⟩, A', c', e', _⟩ := jv_form h
  exact ⟨k, t, ns, ks, A, c, A', c', rfl, e, e'⟩
def ObjP (j : JsonD) (nms : List Txt) (w : World) (e : Ending) (w' : World) : Prop := Q w w' ∧
  ((onlyJ j nms = true ∧ ∃ b, e = .returned (.tuple #[.map (some b), .nilIface]) ∧ MapB w' b (j.names.zip j.kids)) ∨ (onlyJ j nms = false ∧ e = .returned (.tuple #[.map none, .iface 34 (.int .i64 58)])))
def OnlyK (nms l : List Txt) : Prop := l.Nodup ∧ ∀ x ∈ l, x ∈ nms
theorem only_snoc {nms l : List Txt} {x : Txt} (h : OnlyK nms l) (h1 : x ∉ l) (h2 : x ∈ nms) : OnlyK nms (l ++ [x]) := by
  refine ⟨List.nodup_append.2 ⟨h.1, by simp, fun a ha b hb e => by simp at hb; subst hb; subst e; exact h1 ha⟩, fun y hy => ?_⟩
  rcases List.mem_append.1 hy with hy | hy
  · exact h.2 y hy
  · rw [List.mem_singleton.1 hy]; exact h2
theorem take_gL (l : List Txt) (k : Nat) (h : k < l.length) : l.take (k + 1) = l.take k ++ [gL l k] := by
  rw [List.take_succ_eq_append_getElem h]; simp [gL, List.getD, h]
theorem gL_mem (l : List Txt) (k : Nat) (h : k < l.length) : gL l k ∈ l := by
  have : gL l k = l[k] := by simp [gL, List.getD, h]
  rw [this]; exact List.getElem_mem h
theorem only_iff (k : Int) (t : Txt) (ns nms : List Txt) (ks : List JsonD) : onlyJ (.mk k t ns ks) nms = true ↔ k = 7 ∧ OnlyK nms ns := by
  unfold onlyJ
  rw [Bool.and_eq_true, Bool.and_eq_true, decide_eq_true_iff, decide_eq_true_iff, List.all_eq_true]
  constructor
  · rintro ⟨⟨h1, h2⟩, h3⟩; exact ⟨h1, h2, fun x hx => of_decide_eq_true (h3 x hx)⟩
  · rintro ⟨h1, h2, h3⟩; exact ⟨⟨h1, h2⟩, fun x hx => decide_eq_true (h3 x hx)⟩
theorem only_false {k : Int} {t : Txt} {ns nms : List Txt} {ks : List JsonD} (h : ¬ (k = 7 ∧ OnlyK nms ns)) : onlyJ (.mk k t ns ks) nms = false := by
  cases ho : onlyJ (.mk k t ns ks) nms with
  | false => rfl
  | true => exact absurd ((only_iff k t ns nms ks).1 ho) h
theorem only_all {k : Int} {t : Txt} {ns nms : List Txt} {ks : List JsonD} (hk : k = 7) (h : OnlyK nms ns) : onlyJ (.mk k t ns ks) nms = true := (only_iff k t ns nms ks).2 ⟨hk, h⟩
theorem only_twice {k : Int} {t : Txt} {ns nms : List Txt} {ks : List JsonD} {i : Nat} (hi : i < ns.length) (h : gL ns i ∈ ns.take i) : onlyJ (.mk k t ns ks) nms = false := only_false fun ho => by
  have hn := ho.2.1
  rw [← List.take_append_drop (i + 1) ns, take_gL ns i hi, List.append_assoc] at hn
  exact absurd rfl ((List.nodup_append.1 hn).2.2 _ h _ (by simp))
theorem only_other {k : Int} {t : Txt} {ns nms : List Txt} {ks : List JsonD} {i : Nat} (hi : i < ns.length) (h : gL ns i ∉ nms) : onlyJ (.mk k t ns ks) nms = false := only_false fun ho => h (ho.2.2 _ (gL_mem ns i hi))
theorem only_kind {k : Int} {t : Txt} {ns nms : List Txt} {ks : List JsonD} (h : ¬ k = 7) : onlyJ (.mk k t ns ks) nms = false := only_false fun ho => h ho.1
theorem zip_look : ∀ (ns : List Txt) (ks : List JsonD) (k : Nat) (x : Txt), ns.length = ks.length → (((ns.zip ks).take k).lookup x).isSome = decide (x ∈ ns.take k)
  | [], _, k, x, _ => by simp
  | n :: ns, [], k, x, h => by simp at h
  | n :: ns, j :: ks, 0, x, h => by simp
  | n :: ns, j :: ks, k + 1, x, h => by
    rw [List.zip_cons_cons, List.take_succ_cons, List.take_succ_cons, List.lookup]
    by_cases hx : x = n
    · subst hx; simp
    · have h1 : (x == n) = false := by simpa using hx
      rw [h1]
      simp only
      rw [zip_look ns ks k x (by simpa using h)]
      simp [hx]
theorem zip_snoc (ns : List Txt) (ks : List JsonD) (k : Nat) (h : ns.length = ks.length) (hk : k < ns.length) : (ns.zip ks).take (k + 1) = (ns.zip ks).take k ++ [(gL ns k, gK ks k)] := by
  rw [List.take_succ_eq_append_getElem (by simp; omega)]
  congr 2
  rw [List.getElem_zip]
  have h1 : gL ns k = ns[k] := by simp [gL, List.getD, hk]
  rw [h1, gK_get ks k (by omega)]
def ObSt (w0 : World) (nms ns : List Txt) (ks : List JsonD) (N b k : Nat) (row : Obj) (wx : World) : Prop :=
  (∃ n D, wx.ownsMap Tryz.prog 9 heldR b n D ∧ n ≤ k ∧ MapJ w0 ((ns.zip ks).take k) D) ∧ Q w0 wx ∧ wx.heap[N]? = some row ∧ OnlyK nms (ns.take k)
set_option maxRecDepth 100000 in
theorem object_any (k : Int) (t : Txt) (ns : List Txt) (ks : List JsonD) (A1 A2 : Option Addr) (c1 c2 : Nat) (nms : List Txt) (A3 : Option Addr) (c3 : Nat) (w : World) (hj : JV w (.mk k t ns ks) (.slice A1 ns.length c1) (.slice A2 ks.length c2)) (hn : NsV w (.slice A3 nms.length c3) nms)
    (hl : k = 7 → ns.length = ks.length) (hb : ns.length ≤ 1000000) (hs : ∀ i, i < ns.length → (gL ns i).length ≤ 140737488355328) :
    Calls Tryz.prog 31 #[.agg #[.int .i64 k, .string ⟨t.toArray⟩, .slice A1 ns.length c1, .slice A2 ks.length c2], .slice A3 nms.length c3] w (ObjP (.mk k t ns ks) nms w) := by
  have HJ := Lib.hid hj
  have HNm := Lib.hid hn
  have HS := Lib.hid hs
  obtain ⟨W, hW⟩ : ∃ W, w.alloc (.cells #[.int .i64 k, .string ⟨t.toArray⟩, .slice A1 ns.length c1, .slice A2 ks.length c2] 46) = W := ⟨_, rfl⟩
  have hqW : Q w W := by rw [← hW]; exact (Q.refl w).alloc _
  have hrow := heap_alloc_new w (.cells #[.int .i64 k, .string ⟨t.toArray⟩, .slice A1 ns.length c1, .slice A2 ks.length c2] 46)
  obtain ⟨N, hN⟩ : ∃ N, w.heap.size = N := ⟨_, rfl⟩
  rw [hW, hN] at hrow
  have HNl : Hid (w.heap.size ≤ N) := Lib.hid (Nat.le_of_eq hN)
  have HQW := Lib.hid hqW
  have HRow := Lib.hid hrow
  have y0 : W.cell? ⟨N, 0, none⟩ = some (.int .i64 k) := by rw [cell_of_row _ _ _ _ _ _ hrow]; rfl
  clear hj hn hs hqW hrow
  go_enter Tryz.func31, Tryz.ntmps31
  go_upto_region 1 with (fail)
  clear hW hN
  by_cases hk : k = 7
  · have hl7 := hl hk
    have HL := Lib.hid hl7
    have HK := Lib.hid hk
    subst hk
    clear hl hl7
    have hmk := run_makeMap (P := Tryz.prog) 71 W
    go_upto_region 4 with (fail)
    have HM0 := Lib.hid (World.ownsMap_made W Tryz.prog 9 heldR)
    obtain ⟨W2, hW2⟩ : ∃ W2, W.alloc (.map #[] 0) = W2 := ⟨_, rfl⟩
    obtain ⟨b, hb2⟩ : ∃ b, W.heap.size = b := ⟨_, rfl⟩
    have hq2 : Q W W2 := by rw [← hW2]; exact (Q.refl W).alloc _
    rw [hW2, hb2] at HM0
    rw [hW2, hb2]
    have HS0 : Hid (ObSt w nms ns ks N b 0 (.cells #[.int .i64 7, .string ⟨t.toArray⟩, .slice A1 ns.length c1, .slice A2 ks.length c2] 46 (0, 0)) W2) := Lib.hid ⟨⟨0, _, HM0.out, Nat.le_refl _, by rw [List.take_zero]; exact MapJ.nil w⟩, HQW.out.trans hq2, hq2.block HRow.out, by rw [List.take_zero]; exact ⟨List.nodup_nil, fun x hx => by cases hx⟩⟩
    have HBl : Hid (w.heap.size ≤ b ∧ N ≠ b) := Lib.hid ⟨by rw [← hb2]; exact HQW.out.size, by rw [← hb2]; exact Nat.ne_of_lt (lt_of_heap HRow.out)⟩
    have y2 : W2.cell? ⟨N, 2, none⟩ = some (.slice A1 ns.length c1) := by rw [cell_of_row _ _ _ _ _ _ HS0.out.2.2.1]; rfl
    clear hW2 hb2 hq2 y0 hmk HM0
    go_wp2_with fail
    go_loopw [19] (fun i wx => ∃ k : Nat, k ≤ ns.length ∧ i = .int .i64 (k : Int) ∧ Hid (ObSt w nms ns ks N b k (.cells #[.int .i64 7, .string ⟨t.toArray⟩, .slice A1 ns.length c1, .slice A2 ks.length c2] 46 (0, 0)) wx)) (fun i _ => ns.length - (intOf i).toNat)
    case atStart => exact ⟨0, by omega, rfl, HS0⟩
    case round =>
      obtain ⟨k, hk, rfl, HI⟩ := hrel
      rename World => wa
      by_cases hlt : k < ns.length
      · have hd : decide (k < ns.length) = true := by simpa using hlt
        obtain ⟨x, hx⟩ : ∃ x, gL ns k = x := ⟨_, rfl⟩
        have hns : NsV w (.slice A1 ns.length c1) ns := by have := HJ.out; rw [JV] at this; exact this.1
        obtain ⟨A, c, hAe, -, -, hcl⟩ := hns.at
        cases hAe
        obtain ⟨g, off, rfl, x0⟩ := hcl k hlt
        rw [hx] at x0
        replace x0 := HI.out.2.1.cell x0
        have hxl : x.length ≤ 140737488355328 := by rw [← hx]; exact HS.out k hlt
        have HX := Lib.hid hx
        have hlk := zip_look ns ks k x HL.out
        have HB : Hid (MapB wa b ((ns.zip ks).take k)) := Lib.hid (by
          obtain ⟨⟨n, D, h1, h2, h3⟩, h4, h5, h6⟩ := HI.out
          exact ⟨n, D, h1, by rw [List.length_take, List.length_zip, ← HL.out]; omega, h3.q h4⟩)
        obtain ⟨B1, n1, d1, B2, n2, d2, hjv, r1, -⟩ := HB.out.look x (Nat.le_trans hxl (by decide))
        obtain ⟨r, hr⟩ : ∃ r, ((ns.zip ks).take k |>.lookup x).isSome = r := ⟨_, rfl⟩
        rw [hr] at r1 hlk
        have HLk := Lib.hid hlk
        obtain ⟨kk, hkk⟩ : ∃ kk, (orJ (((ns.zip ks).take k).lookup x)).kind = kk := ⟨_, rfl⟩
        obtain ⟨tt, htt⟩ : ∃ tt, (orJ (((ns.zip ks).take k).lookup x)).text = tt := ⟨_, rfl⟩
        rw [hkk, htt] at r1
        have HRn := Lib.hid hr
        clear hx hlk hjv hkk htt hcl hr hns
        go_upto_region 8 with (fail)
        obtain ⟨W3, hW3⟩ : ∃ W3, wa.alloc (.cells #[.int .i64 kk, .string ⟨tt.toArray⟩, .slice B1 n1 d1, .slice B2 n2 d2] 46) = W3 := ⟨_, rfl⟩
        have hq3 : Q wa W3 := by rw [← hW3]; exact (Q.refl wa).alloc _
        have HI3 : Hid (ObSt w nms ns ks N b k (.cells #[.int .i64 7, .string ⟨t.toArray⟩, .slice (some ⟨g, off, none⟩) ns.length c1, .slice A2 ks.length c2] 46 (0, 0)) W3) := Lib.hid (by
          obtain ⟨⟨n, D, h1, h2, h3⟩, h4, h5, h6⟩ := HI.out
          exact ⟨⟨n, D, h1.kept (hq3.gb none) (by simp), h2, h3⟩, h4.trans hq3, hq3.block h5, h6⟩)
        rw [hW3]
        clear hW3 hq3 HI HB r1 x0 y2 HS0
        cases r with
        | true =>
          have HO : Hid (onlyJ (.mk 7 t ns ks) nms = false) := Lib.hid (only_twice hlt (by rw [HX.out]; exact of_decide_eq_true HLk.out.symm))
          go_wp2_with fail
          refine (errNone_any _).mono ?_
          rintro e w4 ⟨rfl, hq4⟩
          have HQ := Lib.hid (HI3.out.2.1.trans hq4)
          clear hq4
          go_wp2_with fail
          go_ret2
          exact ⟨HQ.out, .inr ⟨HO.out, rfl⟩⟩
        | false =>
          have HCt := Lib.hid (contains_any nms x W3 (.slice A3 nms.length c3) (HNm.out.mono (fun _ _ => HI3.out.2.1.cell)))
          go_wp2_with fail
          refine HCt.out.mono ?_
          rintro e w4 ⟨rfl, hq4⟩
          have HQ4 := Lib.hid hq4
          clear hq4 HCt
          by_cases hin : x ∈ nms
          · have hdi : decide (x ∈ nms) = true := decide_eq_true hin
            have hkv := HJ.out.kid
            obtain ⟨B, cc, hBe, -, -, hkid⟩ := hkv
            cases hBe
            obtain ⟨gk, ok, vn', vk', rfl, z0, z1, z2, z3, zv⟩ := hkid k (by rw [← HL.out]; exact hlt)
            have hq04 : Q w w4 := HI3.out.2.1.trans HQ4.out
            replace z0 := hq04.cell z0
            replace z1 := hq04.cell z1
            replace z2 := hq04.cell z2
            replace z3 := hq04.cell z3
            obtain ⟨E1, m1, e1, E2, m2, e2, rfl, rfl⟩ := zv.form
            have hrow4 := HQ4.out.block HI3.out.2.2.1
            have y3 : w4.cell? ⟨N, 3, none⟩ = some (.slice (some ⟨gk, ok, none⟩) ks.length c2) := by rw [cell_of_row _ _ _ _ _ _ hrow4]; rfl
            have hkl : k < ks.length := by rw [← HL.out]; exact hlt
            have hdk : decide (k < ks.length) = true := by simpa using hkl
            have hlkn : ((ns.zip ks).take k).lookup x = none := by
              have := HRn.out
              cases hl : ((ns.zip ks).take k).lookup x with
              | none => rfl
              | some v => rw [hl] at this; cases this
            obtain ⟨⟨n, D, h1, h2, h3⟩, h4, h5, h6⟩ := HI3.out
            have hown := h1.kept (hq04.gb none |> fun _ => HQ4.out.gb none) (by simp)
            have HPut := Lib.hid (h3.put x (gK ks k) _ _ hlkn zv)
            obtain ⟨kd, hkd⟩ : ∃ kd, (gK ks k).kind = kd := ⟨_, rfl⟩
            obtain ⟨td, htd⟩ : ∃ td, (gK ks k).text = td := ⟨_, rfl⟩
            have hcj : (cellJ (gK ks k) (.slice E1 m1 e1) (.slice E2 m2 e2)).toArray = #[.int .i64 kd, .string ⟨td.toArray⟩, .slice E1 m1 e1, .slice E2 m2 e2] := by rw [← hkd, ← htd]; rfl
            rw [hcj] at HPut
            rw [hkd] at z0
            rw [htd] at z1
            have HOk : Hid (OnlyK nms (ns.take (k + 1))) := Lib.hid (by
              rw [take_gL ns k hlt, HX.out]
              exact only_snoc h6 (of_decide_eq_false HLk.out.symm) hin)
            have HZp : Hid ((ns.zip ks).take (k + 1) = (ns.zip ks).take k ++ [(x, gK ks k)]) := Lib.hid (by rw [zip_snoc ns ks k HL.out hlt, HX.out])
            have HQ04 := Lib.hid hq04
            have HRow4 := Lib.hid hrow4
            have HKey := Lib.hid (keyS x (Nat.le_trans hxl (by decide)))
            have hnm : n < maxLen := by unfold maxLen; omega
            have HOwn := Lib.hid hown
            have HNk := Lib.hid h2
            clear hin zv h1 h2 h3 h4 h5 h6 hq04 hrow4 hlkn hkd htd hcj hkid hown HI3
            go_upto_region 10 with (fail)
            go_wp2_with (at_mapUpdate; refine wpList_mapUpdate_own _ rfl _ _ _ 71 rfl 9 46 KeyS Tryz.underlying71 heldR b n D rfl HOwn.out hnm _ _ (.string x) rfl rfl HKey.out (.held (.agg #[.int .i64 kd, .string ⟨td.toArray⟩, .slice E1 m1 e1, .slice E2 m2 e2])) [] rfl ?_; intro w5 hown5 hgrow5)
            have HN : Hid (ObSt w nms ns ks N b (k + 1) (.cells #[.int .i64 7, .string ⟨t.toArray⟩, .slice (some ⟨g, off, none⟩) ns.length c1, .slice (some ⟨gk, ok, none⟩) ks.length c2] 46 (0, 0)) w5) := Lib.hid
              ⟨⟨n + 1, _, hown5, Nat.succ_le_succ HNk.out, by rw [HZp.out]; exact HPut.out⟩, HQ04.out.grown hgrow5 HQ04.out.size (fun k hk => by injection hk with hk; subst hk; exact HBl.out.1),
                by rw [hgrow5.block N (lt_of_heap HRow4.out) (fun e => by injection e with e; exact HBl.out.2 e)]; exact HRow4.out, HOk.out⟩
            clear hown5 hgrow5 HPut HOwn
            go_roundw
            case rel => exact ⟨k + 1, by omega, by go_num, HN⟩
            case measure => simp [intOf]; omega
          · have hdi : decide (x ∈ nms) = false := decide_eq_false hin
            have HO : Hid (onlyJ (.mk 7 t ns ks) nms = false) := Lib.hid (only_other hlt (by rw [HX.out]; exact hin))
            have HQ5 := Lib.hid (HI3.out.2.1.trans HQ4.out)
            clear hin
            go_wp2_with fail
            refine (errNone_any _).mono ?_
            rintro e w5 ⟨rfl, hq5⟩
            have HQ := Lib.hid (HQ5.out.trans hq5)
            clear hq5
            go_wp2_with fail
            go_ret2
            exact ⟨HQ.out, .inr ⟨HO.out, rfl⟩⟩
      · have hd : decide (k < ns.length) = false := by simpa using hlt
        have HR : Hid (ObjP (.mk 7 t ns ks) nms w (.returned (.tuple #[.map (some b), .nilIface])) wa) := Lib.hid (by
          obtain ⟨⟨n, D, h1, h2, h3⟩, h4, h5, h6⟩ := HI.out
          rw [List.take_of_length_le (by omega)] at h6
          rw [List.take_of_length_le (by simp; omega)] at h3
          exact ⟨h4, .inl ⟨only_all rfl h6, b, rfl, n, D, h1, by show n ≤ (ns.zip ks).length; rw [List.length_zip, ← HL.out]; omega, h3.q h4⟩⟩)
        clear HI
        go_wp2_with fail
        go_ret2
        exact HR.out
  · have hkd : (k != 7) = true := by simpa using hk
    have hkd2 : (k == 7) = false := by simpa using hk
    have HX : Hid (onlyJ (.mk k t ns ks) nms = false) := Lib.hid (only_kind hk)
    clear hk hl
    go_wp2_with fail
    refine (errNone_any _).mono ?_
    rintro e w1 ⟨rfl, hq⟩
    have HQ := Lib.hid (HQW.out.trans hq)
    clear hq
    go_wp2_with fail
    go_ret2
    exact ⟨HQ.out, .inr ⟨HX.out, rfl⟩⟩
end Go.Proofs.YtlhhiiemojhjdaaGreatDoor
set_option linter.unusedVariables false
namespace Go.Proofs.YtlhhiiemojhjdaaGreatDoor
open Go Go.RowKit
theorem oneStr : OneCell Tryz.prog 39 9 (.string ⟨#[]⟩) 16 := ⟨Tryz.underlying39, by kernel_rfl, rfl⟩
end Go.Proofs.YtlhhiiemojhjdaaGreatDoor
