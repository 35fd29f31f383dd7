/- Texts of this proof, laid into one: UrC, Pure, Qt, Mix, Rnd, Hld, Frk, UrD, UrE, UrF, SgA. -/
import Derived.Test.YtmmoenbmgcplkaaGreatDoorMy01
import Derived.Deep.RegionWith
import Derived.OrdersHeld
import Derived.StillTail
import Derived.RangeFuncCalls
import Derived.OrdersIn
import Derived.TacticsIn
import Derived.Deep.RegionHeld3
import Derived.Shelf.Vars
import Derived.Shelf.Strings.CaseAny
set_option linter.unusedVariables false
set_option linter.unusedSimpArgs false
namespace Go.Proofs.YtmmoenbmgcplkaaGreatDoor
open Go Go.RowKit
def capsL : List UInt8 := [48, 49, 50, 51, 52, 53, 54, 55, 56, 57, 65, 66, 67, 68, 69, 70]
def escL (b : UInt8) : List UInt8 := [37, gB capsL (b.toNat / 16), gB capsL (b.toNat % 16)]
def encB (sl : Bool) (b : UInt8) : List UInt8 := if freeL sl b then [b] else escL b
def encL (sl : Bool) (l : List UInt8) : List UInt8 := l.flatMap (encB sl)
theorem encB_le (sl : Bool) (b : UInt8) : (encB sl b).length ≤ 3 := by unfold encB escL; split <;> simp
theorem encL_le (sl : Bool) (l : List UInt8) : (encL sl l).length ≤ 3 * l.length := by
  unfold encL
  induction l with
  | nil => simp
  | cons a r ih => have := encB_le sl a; simp at *; omega
theorem encL_snoc (sl : Bool) (l : List UInt8) (b : UInt8) : encL sl (l ++ [b]) = encL sl l ++ encB sl b := by unfold encL; simp
theorem take_snocB (l : List UInt8) (k : Nat) (h : k < l.length) : l.take (k + 1) = l.take k ++ [gB l k] := by
  rw [List.take_add_one, List.getElem?_eq_getElem h]; simp [gB, List.getD, h]
theorem and15 : ∀ c : Nat, c < 256 → bits .and .u8 (c : Int) 15 = ((c % 16 : Nat) : Int) := by decide +kernel
theorem sub_caps (k : Nat) (h : k < 16) : sub [48, 49, 50, 51, 52, 53, 54, 55, 56, 57, 65, 66, 67, 68, 69, 70] k (k + 1) = [gB capsL k] := by
  have : ∀ x : Fin 16, sub [48, 49, 50, 51, 52, 53, 54, 55, 56, 57, 65, 66, 67, 68, 69, 70] x.val (x.val + 1) = [gB capsL x.val] := by decide +kernel
  exact this ⟨k, h⟩
set_option maxRecDepth 100000 in
set_option maxHeartbeats 400000 in
theorem encode_any (l : List UInt8) (k : Nat) (sl : Bool) (w : World) (hc : w.cell? ⟨k, 0, none⟩ = some (.bool sl)) (hl : l.length ≤ 100000000) :
    Calls Tryz.prog 112 #[.string ⟨l.toArray⟩, .func (.func 113) #[] #[.pointer (some ⟨k, 0, none⟩)]] w fun e w' => e = .returned (.string ⟨(encL sl l).toArray⟩) ∧ Q w w' := by
  have hk := lt_of_cell hc
  obtain ⟨v, w1, hcv, hown, hq1, cap, hv⟩ := bytes_of l (w.alloc (.cells #[.pointer none, .slice none 0 0] 108)) (by omega)
  rw [hv] at hcv hown
  have hb : w1.heap[w.heap.size]? = some (.cells #[.pointer none, .slice none 0 0] 108 (0, 0)) := hq1.block (heap_alloc_new w _)
  have hs0 : (w.alloc (.cells #[.pointer none, .slice none 0 0] 108)).heap.size = w.heap.size + 1 := by simp
  rw [hs0] at hcv hown
  have hsz1 : w.heap.size + 1 < w1.heap.size := by
    rcases hown with ⟨h, _⟩ | ⟨g, cap, cur, fz, h, _, h3, _⟩
    · cases h
    · injection h with h _ _; injection h with h; injection h with h; subst h; exact lt_of_heap h3
  have HBO := Lib.hid (BO.new w1 w1 w.heap.size w1.heap.size hb (by omega))
  have HQA := Lib.hid (((Q.refl w).alloc (.cells #[.pointer none, .slice none 0 0] 108)).trans hq1)
  have HOW := Lib.hid hown
  clear hown hq1 hb hv
  go_enter Tryz.func112, Tryz.ntmps112
  go_wp2_with fail
  clear hcv hs0
  go_loopw [11] (fun i wr => ∃ j : Nat, j ≤ l.length ∧ i = .int .i64 j ∧ BO w1.heap.size w.heap.size (encL sl (l.take j)) wr ∧ KB w1.heap.size w.heap.size w1 wr) (fun i _ => l.length - (intOf i).toNat)
  case atStart => exact ⟨0, by omega, rfl, HBO.out, KB.refl _ _ _⟩
  case round =>
    obtain ⟨j, hj, rfl, hB, hkb⟩ := hrel
    by_cases hlt : j < l.length
    · have hd : decide (j < l.length) = true := by simpa using hlt
      obtain ⟨g, cc, hv, _, _, _, hcell⟩ := HOW.out.pos (by omega)
      cases hv
      have cx := hkb.cell (by simp; omega) (by simp) (hcell j hlt).1
      have ck := hkb.cell (by simp; omega) (by simp; omega) (HQA.out.cell hc)
      have HT : Hid (encL sl (l.take (j + 1)) = encL sl (l.take j) ++ encB sl (gB l j)) := by rw [take_snocB l j hlt]; exact encL_snoc _ _ _
      have HE := Lib.hid (encL_le sl (l.take j))
      have HBJ := Lib.hid hB
      have HKB := Lib.hid hkb
      clear hB hkb hcell
      obtain ⟨b, hgb⟩ : ∃ b, gB l j = b := ⟨_, rfl⟩
      rw [hgb] at cx HT
      have hlt2 := Nat.lt_of_lt_of_le hsz1 HKB.out.size
      go_wp2_with fail
      refine (Encode1_any _ _ _ _ ck).mono ?_
      rintro e wx ⟨rfl, rfl⟩
      rcases hf : freeL sl b with _ | _
      · go_wp2_with fail
        clear cx ck
        obtain ⟨hi, hhi⟩ : ∃ hi : Nat, b.toNat / 16 = hi := ⟨_, rfl⟩
        obtain ⟨lo, hlo⟩ : ∃ lo : Nat, b.toNat % 16 = lo := ⟨_, rfl⟩
        have hb8 := b.toNat_lt
        have hi16 : hi < 16 := by omega
        have lo16 : lo < 16 := by omega
        have he1 : ((b.toNat : Int)) / 16 = (hi : Int) := by omega
        have he2 : bits .and .u8 (b.toNat : Int) 15 = (lo : Int) := by rw [and15 b.toNat (by omega), hlo]
        have hw1 : IntKind.u8.wrap ((hi : Int) + 1) = (hi : Int) + 1 := by rw [IntKind.wrap_u8]; omega
        have hw2 : IntKind.u8.wrap ((lo : Int) + 1) = (lo : Int) + 1 := by rw [IntKind.wrap_u8]; omega
        have hg1 : (hi : Int) + 1 ≤ 16 := by omega
        have hg2 : (lo : Int) + 1 ≤ 16 := by omega
        have hs1 := sub_caps hi hi16
        have hs2 := sub_caps lo lo16
        have HES : Hid (escL b = [37, gB capsL hi, gB capsL lo]) := by unfold escL; rw [hhi, hlo]; exact rfl
        clear hhi hlo hb8
        go_region_with (go_at_call 76; refine (boStr _ _ _ [37, gB capsL hi, gB capsL lo] _ (HBJ.out.q (Q.refl _).drew) HKB.out.size (by have := HE.out; simp at this; simp; omega)).mono ?_; rintro e w3 ⟨rfl, hB3, hk3⟩)
        all_goals
          have HB3 := Lib.hid hB3
          have HK3 := Lib.hid ((HKB.out.trans (KB.q (Q.refl _).drew HKB.out.size)).trans hk3)
          clear hB3 hk3
          go_wp2_with fail
          refine ⟨⟨j + 1, by omega, by go_num, by rw [HT.out]; unfold encB; rw [hf, ← HES.out] at *; exact HB3.out, HK3.out⟩, by simp [intOf]; omega⟩
      · go_wp2_with fail
        refine (boByte _ _ _ _ _ HBJ.out HKB.out.size (by have := HE.out; simp at this; omega)).mono ?_
        rintro e w3 ⟨rfl, hB3, hk3⟩
        have HB3 := Lib.hid hB3
        have HK3 := Lib.hid (HKB.out.trans hk3)
        clear hB3 hk3 cx ck
        go_wp2_with fail
        go_roundw
        case rel => exact ⟨j + 1, by omega, by go_num, by rw [HT.out]; unfold encB; rw [hf]; exact HB3.out, HK3.out⟩
        case measure => simp [intOf]; omega
    · obtain rfl : j = l.length := by omega
      go_wp2_with fail
      refine (bldString _ _ _ (hB.bld (w0 := w) (Nat.le_refl _)) (by have := hkb.size; omega)).mono ?_
      rintro e w6 ⟨rfl, hb6⟩
      go_wp2_with fail
      go_ret
      refine ⟨by simp, ?_⟩
      exact (KB.toQ hkb HQA.out (Nat.le_refl _) (by omega)).below hb6
theorem Encode_any (l : List UInt8) (sl : Bool) (w : World) (hl : l.length ≤ 100000000) :
    Calls Tryz.prog 69 #[.string ⟨l.toArray⟩, .bool sl] w fun e w' => e = .returned (.string ⟨(encL sl l).toArray⟩) ∧ Q w w' := by
  go_enter Tryz.func69, Tryz.ntmps69
  go_wp2_with fail
  refine (encode_any l w.heap.size sl _ (by rw [cell_of_row _ _ _ _ _ _ (heap_alloc_new w _)]; rfl) hl).mono ?_
  rintro e w1 ⟨rfl, hq⟩
  go_wp2_with fail
  go_ret
  exact ⟨rfl, ((Q.refl w).alloc _).trans hq⟩
end Go.Proofs.YtmmoenbmgcplkaaGreatDoor
set_option linter.unusedVariables false
namespace Go.Proofs.YtmmoenbmgcplkaaGreatDoor
open Go Go.RowKit
def pureOp : Op → Bool
  | .move _ | .assign _ | .nilCheck _ | .pick .. | .build .. | .load .. | .binOp .. | .unOp .. | .convert .. | .slice .. | .fieldAddr .. | .field .. | .indexAddr .. | .index .. | .extract .. => true
  | .call c => (match c.callee with | .builtin .len => true | _ => false)
  | _ => false
theorem pure_run {P : Program} {ρ : Operand → Value} {o : Oper} {w w' : World} {n : Next} (hp : pureOp o.op = true) (h : (execOp ρ o).run P w = .ok n w') : ∃ v, n = .value v := by
  have key : ∀ s : Sem Value, (do pure (Next.value (← s)) : Sem Next).run P w = .ok n w' → ∃ v, n = .value v := by
    intro s hs
    simp only [Sem.run_bind, Sem.run_pure] at hs
    cases hq : s.run P w with
    | ok x u => rw [hq] at hs; simp [Result.andThen] at hs; exact ⟨x, hs.1.symm⟩
    | halt x u => rw [hq] at hs; simp [Result.andThen] at hs
  obtain ⟨dst, op, type, pos, after, guard⟩ := o
  cases op <;> simp only [pureOp, Bool.false_eq_true] at hp <;> unfold execOp at h <;> simp only at h
  case move x => simp only [Sem.run_pure] at h; cases h; exact ⟨_, rfl⟩
  case assign x => simp only [Sem.run_pure] at h; cases h; exact ⟨_, rfl⟩
  case pick c a b =>
    simp only [Sem.run_bind, Sem.run_pure] at h
    cases hq : (asBool (ρ c)).run P w with
    | ok x u => rw [hq] at h; simp [Result.andThen] at h; exact ⟨_, h.1.symm⟩
    | halt x u => rw [hq] at h; simp [Result.andThen] at h
  case call c =>
    obtain ⟨ce, ar, ts⟩ := c
    cases ce with
    | builtin b =>
      cases b <;> simp only [Bool.false_eq_true] at hp
      simp only [resolve, invoke, Sem.run_bind, Sem.run_pure, Result.andThen, builtin] at h
      cases hq : (Builtin.len_ ts type (Array.map ρ ar)).run P w with
      | ok x u => rw [hq] at h; simp at h; exact ⟨_, h.1.symm⟩
      | halt x u => rw [hq] at h; simp at h
    | invoke x y => simp only [Bool.false_eq_true] at hp
    | value x => simp only [Bool.false_eq_true] at hp
  case nilCheck x =>
    have kb : ∀ {α : Type} (s : Sem α) (f : α → Sem Next) (w : World), (∀ a w1, (f a).run P w1 = .ok n w' → ∃ v, n = .value v) → (s >>= f).run P w = .ok n w' → ∃ v, n = .value v := fun s f w hf h => by
      rw [Sem.run_bind] at h
      cases hq : s.run P w with
      | ok a w1 => rw [hq] at h; exact hf a w1 h
      | halt y w1 => rw [hq] at h; cases h
    have kp : ∀ (v : Value) (w : World), (pure (Next.value v) : Sem Next).run P w = .ok n w' → ∃ v, n = .value v := fun v w h => by
      simp only [Sem.run_pure] at h; cases h; exact ⟨_, rfl⟩
    have kn : (runtimePanic .nilDeref : Sem Next).run P w = .ok n w' → ∃ v, n = .value v := fun h => by
      unfold runtimePanic at h
      refine kb _ _ _ (fun a w1 h => ?_) h
      simp [goPanic] at h
    split at h
    · exact kn h
    · exact kn h
    · exact kn h
    · split at h
      · exact kn h
      · refine kb _ _ _ (fun a w1 h => kb _ _ _ (fun b w2 h => ?_) h) h
        split at h
        · exact kb _ _ _ (fun _ w3 h => kp _ _ h) h
        · exact kp _ _ h
      · exact kp _ _ h
    · exact kp _ _ h
  all_goals exact key _ h
def pureB (md : Region.Mode) (ops : Array Oper) : List Nat → Array Bool → Bool
  | [], _ => true
  | k :: r, ls => (match ops[k]? with | some o => pureOp o.op | none => false) && Region.free md ops ls k && (Region.ready md ops ls).contains k && pureB md ops r (ls.setIfInBounds k true)
def markB : List Nat → Array Bool → Array Bool
  | [], ls => ls
  | k :: r, ls => markB r (ls.setIfInBounds k true)
def tailB (md : Region.Mode) (ops : Array Oper) : List Nat → Array Bool → Bool
  | [], ls => (Region.ready md ops ls).isEmpty
  | k :: r, ls => decide (Region.ready md ops ls = [k]) && (ops[k]?).isSome && tailB md ops r (ls.setIfInBounds k true)
section
variable {P : Program} {ops : Array Oper} {R : Exit → Act → World → Prop}
theorem wpQuiet_mono {C : World → Prop} {K K' : Act → Prop} (hk : ∀ a, K a → K' a) (l : List Oper) : ∀ a, wpQuiet P ops C K l a → wpQuiet P ops C K' l a := by
  induction l with
  | nil => intro a h; exact hk a h
  | cons o r ih =>
    intro a h
    unfold wpQuiet at h ⊢
    split
    · next hw => rw [if_pos hw] at h; exact Oper.quiet_mono ih h
    · next hw => rw [if_neg hw] at h; exact ih _ h
theorem any_tail (tl : List Nat) : ∀ (ls : Array Bool) (a : Act) (w : World), tailB .any ops tl ls = true → wpList P ops R (tl.map (ops.getD · default)) a w → wpAnyH P .any ops R (fun _ => True) tl.length ls a w := by
  induction tl with
  | nil => intro ls a w hB h; exact ⟨by simpa [tailB] using hB, h⟩
  | cons k r ih =>
    intro ls a w hB h
    simp only [tailB, Bool.and_eq_true, decide_eq_true_eq] at hB
    refine wpAnyH_all hB.1.1 (by simp) fun i hi => ?_
    have e : i = k := by simpa using hi
    subst e
    obtain ⟨o, ho⟩ := Option.isSome_iff_exists.1 hB.1.2
    have hk : ops.getD i default = o := by simp [Array.getD_eq_getD_getElem?, ho]
    rw [List.map_cons, hk] at h
    have hw : wpOp P ops R i (wpList P ops R (r.map (ops.getD · default))) a w := by unfold wpOp; simp only [ho]; exact h
    exact wpOp_mono (fun a' w' h' => ⟨trivial, ih _ a' w' hB.2 h'⟩) hw
theorem any_head (hsel : Region.noSelect ops = true) (hQ : ∀ c a d v w, R (.panic c) (Act.put a d v) w → R (.panic c) a w) (f : Nat) (w : World) (hd : List Nat) : ∀ (ls : Array Bool) (a : Act), pureB .any ops hd ls = true →
    wpQuiet P ops (fun _ => True) (fun a' => wpAnyH P .any ops R (fun _ => True) f (markB hd ls) a' w) (hd.map (ops.getD · default)) a → wpAnyH P .any ops R (fun _ => True) (hd.length + f) ls a w := by
  induction hd with
  | nil => intro ls a hB h; rw [List.length_nil, Nat.zero_add]; exact h
  | cons k r ih =>
    intro ls a hB h
    simp only [pureB, Bool.and_eq_true] at hB
    cases ho : ops[k]? with
    | none => rw [ho] at hB; simp at hB
    | some o =>
      rw [ho] at hB
      have hk : ops.getD k default = o := by simp [Array.getD_eq_getD_getElem?, ho]
      rw [List.map_cons, hk] at h
      have h2 : if Region.wanted o (yielded ops a.tmps) then o.quiet P a (fun _ => True) (wpQuiet P ops (fun _ => True) (fun a' => wpAnyH P .any ops R (fun _ => True) f (markB (k :: r) ls) a' w) (r.map (ops.getD · default)))
        else wpQuiet P ops (fun _ => True) (fun a' => wpAnyH P .any ops R (fun _ => True) f (markB (k :: r) ls) a' w) (r.map (ops.getD · default)) (a.put o.dst undef) := h
      rw [List.length_cons, Nat.add_right_comm]
      split at h2
      · next hw =>
        obtain ⟨v, hv, hn⟩ := h2
        refine wpAnyH_take ho hsel hB.1.1.2 hB.1.2 (fun c a w => hQ c a _ _ w) (.inl ⟨hw, fun w' _ => ?_⟩) trivial (ih _ _ hB.2 hn)
        have h3 := hv w' trivial
        unfold Oper.quietAt at h3
        cases hr : (execOp a.eval o).run P w' with
        | halt x u => rw [hr] at h3; simp only [Oper.quietUpon] at h3
        | ok n u =>
          obtain ⟨x, rfl⟩ := pure_run hB.1.1.1 hr
          rw [hr] at h3
          simp only [Oper.quietUpon] at h3
          rw [h3.1, h3.2]
      · next hw =>
        exact wpAnyH_take ho hsel hB.1.1.2 hB.1.2 (fun c a w => hQ c a _ _ w) (.inr ⟨by simpa using hw, rfl⟩) trivial (ih _ _ hB.2 h2)
end
theorem wp_region_pure {P : Program} {id : Nat} {R : Exit → Act → World → Prop} {a : Act} {w : World} {l : List Oper} (hd tl : List Nat) (hm : P.follows .mixedOrders = true)
    (hB : (Region.noSelect l.toArray && pureB .any l.toArray hd (Array.replicate l.length false) && tailB .any l.toArray tl (markB hd (Array.replicate l.length false)) && decide (hd.length + tl.length = l.length)) = true)
    (hQ : ∀ c a d v w, R (.panic c) (Act.put a d v) w → R (.panic c) a w)
    (h : wpQuiet P l.toArray (fun _ => True) (fun a' => wpList P l.toArray R (tl.map (l.toArray.getD · default)) a' w.drew) (hd.map (l.toArray.getD · default)) a) : (Code.region id l.toArray true).wp P R a w := by
  simp only [Bool.and_eq_true, decide_eq_true_eq] at hB
  obtain ⟨⟨⟨h1, h2⟩, h3⟩, h4⟩ := hB
  refine wp_region_held (S := fun _ => True) hm ?_
  have e : l.toArray.size = hd.length + tl.length := by simp [h4]
  rw [e]
  have e2 : Array.replicate (hd.length + tl.length) false = Array.replicate l.length false := by rw [h4]
  rw [e2]
  refine any_head h1 hQ tl.length _ hd _ a h2 ?_
  exact wpQuiet_mono (fun a' h' => any_tail tl _ a' _ h3 h') _ _ h
end Go.Proofs.YtmmoenbmgcplkaaGreatDoor
set_option linter.unusedVariables false
namespace Go.Proofs.YtmmoenbmgcplkaaGreatDoor
open Go Go.RowKit
section
variable {P : Program} {ops : Array Oper} {md : Region.Mode} {C : World → Prop}
def headQ (P : Program) (md : Region.Mode) (ops : Array Oper) (C : World → Prop) (n : Nat) (L : Array Bool → Act → Prop) : Nat → Array Bool → Act → Prop
  | 0, ls, a => L ls a
  | f + 1, ls, a => Region.ready md ops ls ≠ [] ∧ ∀ i ∈ Region.ready md ops ls, i < n ∧ qOp P ops C i (headQ P md ops C n L f (ls.setIfInBounds i true)) a
theorem any_of_headQ {n g : Nat} {L : Array Bool → Act → Prop} {R : Exit → Act → World → Prop} (hL : ∀ ls a w, C w → L ls a → wpAny P md ops R g ls a w) (f : Nat) :
    ∀ (ls : Array Bool) (a : Act) (w : World), C w → headQ P md ops C n L f ls a → wpAny P md ops R (f + g) ls a w := by
  induction f with
  | zero => intro ls a w hw h; rw [Nat.zero_add]; exact hL _ _ _ hw h
  | succ f ih =>
    intro ls a w hw h
    rw [Nat.add_right_comm]
    exact ⟨fun h0 => (h.1 h0).elim, fun i hi => wpOp_of_qOp hw (fun a' w' hw' hk => ih _ a' w' hw' hk) (h.2 i hi).2⟩
theorem headQ_first {n i : Nat} {oi : Oper} {v : Value} {L : Array Bool → Act → Prop} (hi : ops[i]? = some oi) (hsel : ∀ (j : Nat) (o : Oper) cs b, ops[j]? = some o → o.op ≠ .select cs b)
    (hs : Region.sinkB md ops n = true) (hc : Region.chainB md ops n = true) (hn : n < ops.size) (hin : i < n) (hdone : ∀ ls a, L ls a → ∀ j ∈ Region.ready md ops ls, n ≤ j) (f : Nat) :
    ∀ (ls : Array Bool) (a : Act), HeadInv md ops n ls →
      (∀ j oj, ops[j]? = some oj → j ≠ i → ls.getD j true = false → (∀ e ∈ oj.after, Region.binds md e = true → e.on ≠ i) → oi.apart ops oj = true) →
      i ∈ Region.ready md ops ls → YieldsIn P ops C oi v a → headQ P md ops C n L f (ls.setIfInBounds i true) (a.put oi.dst v) → headQ P md ops C n L (f + 1) ls a := by
  induction f with
  | zero =>
    intro ls a inv _ hr hy H
    have hun := (mem_ready.1 hr).1
    refine ⟨List.ne_nil_of_mem hr, fun j hj => ?_⟩
    have hjn : j < n := Nat.lt_of_not_le fun h => tail_waits hs hc hn inv _ i rfl hin hun j h hj
    by_cases e : j = i
    · rw [e] at hjn ⊢; exact ⟨hjn, hy.qOp hi H⟩
    · exact absurd (hdone _ _ H j (ready_mono hj e)) (Nat.not_le.2 hjn)
  | succ f ih =>
    intro ls a inv hfree hr hy H
    have hun := (mem_ready.1 hr).1
    refine ⟨List.ne_nil_of_mem hr, fun j hj => ?_⟩
    have hjn : j < n := Nat.lt_of_not_le fun h => tail_waits hs hc hn inv _ i rfl hin hun j h hj
    by_cases e : j = i
    · rw [e] at hjn ⊢; exact ⟨hjn, hy.qOp hi H⟩
    · refine ⟨hjn, ?_⟩
      obtain ⟨hjun, oj, hoj, hall⟩ := mem_ready.1 hj
      have hno : ∀ x ∈ oj.after, Region.binds md x = true → x.on ≠ i := by
        intro x hx hb he
        have := hall x hx hb
        rw [he, getD_both hun] at this
        cases this
      have h2 := qOp_put hoj (hfree j oj hoj e hjun hno) (fun cs b => hsel i oi cs b hi) (fun cs b => hsel j oj cs b hoj) hy (H.2 j (ready_mono hj e)).2
      refine qOp_mono (fun a' h3 => ih _ a' (inv.set hj hjn) (fun k ok hk hki hku hkn => hfree k ok hk hki ?_ hkn) (ready_mono hr (Ne.symm e)) h3.1 (by rw [Array.setIfInBounds_comm _ _ e]; exact h3.2)) h2
      by_cases hjk : j = k
      · rw [← hjk]; exact hjun
      · rwa [getD_set_ne true hjk] at hku
theorem headQ_lex {n g : Nat} {K : Act → Prop} (hsel : Region.noSelect ops = true) (hs : Region.sinkB md ops n = true) (hc : Region.chainB md ops n = true) (hn : n < ops.size) (l : List Oper) :
    ∀ (k : Nat) (ls : Array Bool) (a : Act), (∀ j, j < l.length → l[j]? = ops[k + j]?) → k + l.length = n → HeadInv md ops n ls →
    Region.lexHead md ops g l.length k ls = true → wpQuiet P ops C K l a → headQ P md ops C n (fun ls' a' => Region.seqB md ops g n ls' = true ∧ K a') l.length ls a := by
  induction l with
  | nil =>
    intro k ls a _ hk _ hB h
    have e : k = n := by simpa using hk
    exact ⟨by rw [← e]; simpa [Region.lexHead] using hB, h⟩
  | cons o l ih =>
    intro k ls a hl hk inv hB h
    have h0 : ops[k]? = some o := by simpa using (hl 0 (by simp)).symm
    simp only [List.length_cons, Region.lexHead, Bool.and_eq_true] at hB hk
    have hkn : k < n := by omega
    have hr : k ∈ Region.ready md ops ls := by simpa using hB.1.1
    have hq : qOp P ops C k (wpQuiet P ops C K l) a := by unfold qOp; simp only [h0]; exact h
    obtain ⟨v, hy, hK⟩ := yieldsIn_of_qOp h0 hq
    refine headQ_first h0 (Region.noSelect_spec hsel) hs hc hn hkn (fun ls' a' hL => seqB_ready hL.1) l.length ls a inv (Region.free_spec h0 hB.1.2) hr hy ?_
    refine ih (k + 1) _ _ (fun j hj => ?_) (by omega) (inv.set hr hkn) hB.2 hK
    have := hl (j + 1) (by simp; omega)
    simpa [Nat.add_assoc, Nat.add_comm 1 j] using this
theorem wp_region_quiet_tail {id : Nat} {R : Exit → Act → World → Prop} {a : Act} {w : World} {l : List Oper} (n : Nat) (hm : P.follows .mixedOrders = true) (hB : Region.lexTailB .any l.toArray n = true)
    (hC : C { w with drawn := w.drawn + 1 }) (h : wpQuiet P l.toArray C (fun a' => ∀ w', C w' → wpList P l.toArray R (l.drop n) a' w') (l.take n) a) : (Code.region id l.toArray true).wp P R a w := by
  simp only [Region.lexTailB, Bool.and_eq_true, decide_eq_true_eq] at hB
  have hn : n < l.length := by simpa using hB.1.1.1.2
  have htl : (l.take n).length = n := by simp; omega
  have hdl : (l.drop n).length = l.toArray.size - n := by simp
  have inv0 : HeadInv .any l.toArray n (Array.replicate l.toArray.size false) :=
    ⟨by simp, fun j oj _ hl => (by rw [getD_replicate_false] at hl; cases hl), fun t _ ht => getD_in (by simpa using ht) (getD_replicate_false _ _)⟩
  have H := headQ_lex (md := .any) (C := C) (g := l.toArray.size - n) hB.1.1.1.1 hB.1.1.2 hB.1.2 hB.1.1.1.2 (l.take n) 0 _ a (fun j hj => by rw [htl] at hj; simp [hj]) (by simpa using htl) inv0 (by rw [htl]; exact hB.2) h
  refine wp_region_any hm ?_
  have := any_of_headQ (C := C) (R := R) (g := l.toArray.size - n) (fun ls a' w' hw' hL => by
    have h1 := wpAny_of_seq (md := .any) (Q' := R) (l.drop n) n ls a' w' (fun j => by simp [List.getElem?_drop]) (by rw [hdl]; exact hL.1) (hL.2 w' hw')
    rwa [hdl] at h1) _ _ _ _ hC H
  have hsz : n + (l.toArray.size - n) = l.toArray.size := by
    have : l.toArray.size = l.length := by simp
    omega
  rwa [htl, hsz] at this
end
theorem wp_region_q_tail {P : Program} {id : Nat} {R : Exit → Act → World → Prop} {a : Act} {w : World} {l : List Oper} (n : Nat) (hm : P.follows .mixedOrders = true) (hB : Region.lexTailB .any l.toArray n = true)
    (h : wpQuiet P l.toArray (fun w' => ∃ m : QW w, w' = m.val) (fun a' => ∀ w', (∃ m : QW w, w' = m.val) → wpList P l.toArray R (l.drop n) a' w') (l.take n) a) : (Code.region id l.toArray true).wp P R a w :=
  wp_region_quiet_tail (C := fun w' => ∃ m : QW w, w' = m.val) n hm hB ⟨⟨w.drew, (Q.refl w).drew⟩, rfl⟩ h
end Go.Proofs.YtmmoenbmgcplkaaGreatDoor
set_option linter.unusedVariables false
namespace Go.Proofs.YtmmoenbmgcplkaaGreatDoor
open Go Go.RowKit
section
variable {P : Program} {ops : Array Oper} {R : Exit → Act → World → Prop} {C : World → Prop}
structure MixInv (ops : Array Oper) (ls1 : Array Bool) (H : Nat → Prop) (ls : Array Bool) : Prop where
  size : ls.size = ops.size
  closed : ∀ j oj, ops[j]? = some oj → ls.getD j false = true → ∀ e ∈ oj.after, Region.binds .any e = true → ls.getD e.on false = true
  rest : ∀ t, ¬ H t → ls1.getD t true = false → ls.getD t true = false
  more : ∀ t, ls1.getD t true = true → ls.getD t true = true
theorem MixInv.set {ls1 : Array Bool} {H : Nat → Prop} {i : Nat} {ls : Array Bool} (inv : MixInv ops ls1 H ls) (hi : i ∈ Region.ready .any ops ls) (hin : H i) : MixInv ops ls1 H (ls.setIfInBounds i true) := by
  obtain ⟨_, oi, hoi, hall⟩ := mem_ready.1 hi
  refine ⟨by simp [inv.size], fun j oj hj hl e he hb => ?_, fun t ht ht' => ?_, fun t ht => ?_⟩
  · by_cases hij : i = j
    · subst hij
      have : oj = oi := Option.some.inj (hj.symm.trans hoi)
      subst this
      exact getD_set_true (hall e he hb)
    · rw [getD_set_ne false hij] at hl
      exact getD_set_true (inv.closed j oj hj hl e he hb)
  · have : i ≠ t := fun h => ht (h ▸ hin)
    rw [getD_set_ne true this]; exact inv.rest t ht ht'
  · by_cases hij : i = t
    · subst hij
      by_cases hs : i < ls.size
      · simp [hs]
      · simp [hs]
    · rw [getD_set_ne true hij]; exact inv.more t ht
def sinkL (ops : Array Oper) (qs : List Nat) (t0 : Nat) : Bool := qs.all fun i => (t0 :: qs).any fun j => decide (i < j) && Region.waitsFor .any ops j i
end
theorem wpQuiet_load_row {P : Program} {ops : Array Oper} {C : World → Prop} {K : Act → Prop} {rest : List Oper} {o : Oper} {a : Act} (hgd : o.guard = none) (ty : TypeId) (x : Operand) (ho : o.op = .load ty x)
    (g : Nat) (hx : a.eval x = .pointer (some ⟨g, 0, none⟩)) (t : TypeId) (cs : Array Value) (fr : Nat × Nat) (d : TypeDesc) (hg : ∀ w, C w → w.heap[g]? = some (.cells cs t fr))
    (hu : P.underlying ty = some d) (hd : (match d with | .struct _ | .array _ _ => true | _ => false) = true) (hi : (P.info? ty).map (·.size) = some cs.size)
    (h : wpQuiet P ops C K rest (a.put o.dst (.agg cs))) : wpQuiet P ops C K (o :: rest) a := by
  have hw : Region.wanted o (yielded ops a.tmps) = true := by simp [Region.wanted, hgd]
  unfold wpQuiet
  rw [if_pos hw]
  refine ⟨_, fun w hC => ?_, h⟩
  unfold Oper.quietAt execOp
  simp only [ho, hx, Instr.loadAt, Instr.sureAddr, Sem.run_bind, Sem.run_pure, Result.andThen_ok, run_loadVar_row w g t ty cs fr d (hg w hC) hu hd hi]
  exact ⟨rfl, rfl⟩
end Go.Proofs.YtmmoenbmgcplkaaGreatDoor
set_option linter.unusedVariables false
namespace Go.Proofs.YtmmoenbmgcplkaaGreatDoor
open Go Go.RowKit
section
variable {P : Program} {ops : Array Oper} {Q : Exit → Act → World → Prop} {l n : Nat}
end
end Go.Proofs.YtmmoenbmgcplkaaGreatDoor
set_option linter.unusedVariables false
namespace Go.Proofs.YtmmoenbmgcplkaaGreatDoor
open Go Go.RowKit
section
variable {P : Program} {ops : Array Oper} {R : Exit → Act → World → Prop} {S : World → Prop}
theorem upon_then {o : Oper} {a : Act} {K : Act → World → Prop} (r : Result Next) (h : o.upon P a (wpList P ops (Exit.then K R) []) (Exit.then K R) r) : o.upon P a K R r := by
  cases r with
  | ok x w' =>
    cases x with
    | value v => exact h
    | skip => exact h
    | defer d => exact h
    | enter f args =>
      refine Calls.mono h fun e w'' he => ?_
      cases e with
      | returned u => exact he
      | panicked c => exact he
      | outgrown => exact he
    | row r args => exact Rows.mono h fun u w'' he => he
    | _ => first | exact h.elim | exact h
  | halt x w' =>
    cases x <;> exact h
theorem wpOp_of_one {i : Nat} {o : Oper} {a : Act} {w : World} {K : Act → World → Prop} (ho : ops[i]? = some o) (h : wpList P ops (Exit.then K R) [o] a w) : wpOp P ops R i K a w := by
  unfold wpOp
  simp only [ho]
  unfold wpList at h
  split at h
  · next hw =>
    rw [if_pos hw]
    rcases h with h | ⟨h1, h2⟩
    · exact .inl (upon_then _ h)
    · exact .inr ⟨h1, h2⟩
  · next hw =>
    rw [if_neg hw]
    exact h
theorem any_headS (hsel : Region.noSelect ops = true) (hQ : ∀ c a d v w, R (.panic c) (Act.put a d v) w → R (.panic c) a w) (f : Nat) (w : World) (hS : S w) (hd : List Nat) : ∀ (ls : Array Bool) (a : Act), pureB .any ops hd ls = true →
    wpQuiet P ops S (fun a' => wpAnyH P .any ops R S f (markB hd ls) a' w) (hd.map (ops.getD · default)) a → wpAnyH P .any ops R S (hd.length + f) ls a w := by
  induction hd with
  | nil => intro ls a hB h; rw [List.length_nil, Nat.zero_add]; exact h
  | cons k r ih =>
    intro ls a hB h
    simp only [pureB, Bool.and_eq_true] at hB
    cases ho : ops[k]? with
    | none => rw [ho] at hB; simp at hB
    | some o =>
      rw [ho] at hB
      have hk : ops.getD k default = o := by simp [Array.getD_eq_getD_getElem?, ho]
      rw [List.map_cons, hk] at h
      have h2 : if Region.wanted o (yielded ops a.tmps) then o.quiet P a S (wpQuiet P ops S (fun a' => wpAnyH P .any ops R S f (markB (k :: r) ls) a' w) (r.map (ops.getD · default)))
        else wpQuiet P ops S (fun a' => wpAnyH P .any ops R S f (markB (k :: r) ls) a' w) (r.map (ops.getD · default)) (a.put o.dst undef) := h
      rw [List.length_cons, Nat.add_right_comm]
      split at h2
      · next hw =>
        obtain ⟨v, hv, hn⟩ := h2
        refine wpAnyH_take ho hsel hB.1.1.2 hB.1.2 (fun c a w => hQ c a _ _ w) (.inl ⟨hw, fun w' hw' => ?_⟩) hS (ih _ _ hB.2 hn)
        have h3 := hv w' hw'
        unfold Oper.quietAt at h3
        cases hr : (execOp a.eval o).run P w' with
        | halt x u => rw [hr] at h3; simp only [Oper.quietUpon] at h3
        | ok n u =>
          obtain ⟨x, rfl⟩ := pure_run hB.1.1.1 hr
          rw [hr] at h3
          simp only [Oper.quietUpon] at h3
          rw [h3.1, h3.2]
      · next hw =>
        exact wpAnyH_take ho hsel hB.1.1.2 hB.1.2 (fun c a w => hQ c a _ _ w) (.inr ⟨by simpa using hw, rfl⟩) hS (ih _ _ hB.2 h2)
end
section
variable {P : Program} {ops : Array Oper} {R : Exit → Act → World → Prop} {S : World → Prop}
def wpListK (P : Program) (ops : Array Oper) (R : Exit → Act → World → Prop) (S : World → Prop) (E : Act → World → Prop) : List Oper → Act → World → Prop
  | [], a, w => E a w
  | o :: r, a, w => ∀ K : Act → World → Prop, Hid (∀ a' w', S w' → wpListK P ops R S E r a' w' → K a' w') → wpList P ops (Exit.then K R) [o] a w
def forcedB (ops : Array Oper) : List Nat → Array Bool → Bool
  | [], _ => true
  | k :: r, ls => decide (Region.ready .any ops ls = [k]) && (ops[k]?).isSome && forcedB ops r (ls.setIfInBounds k true)
theorem any_chain (f : Nat) (tl : List Nat) : ∀ (ls : Array Bool) (a : Act) (w : World) (E : Act → World → Prop), S w → forcedB ops tl ls = true → (∀ a w, S w → E a w → wpAnyH P .any ops R S f (markB tl ls) a w) →
    wpListK P ops R S E (tl.map (ops.getD · default)) a w → wpAnyH P .any ops R S (tl.length + f) ls a w := by
  induction tl with
  | nil => intro ls a w E hS hB hE h; rw [List.length_nil, Nat.zero_add]; exact hE a w hS h
  | cons k r ih =>
    intro ls a w E hS hB hE h
    simp only [forcedB, Bool.and_eq_true, decide_eq_true_eq] at hB
    rw [List.length_cons, Nat.add_right_comm]
    refine wpAnyH_all hB.1.1 (by simp) fun i hi => ?_
    have e : i = k := by simpa using hi
    subst e
    obtain ⟨o, ho⟩ := Option.isSome_iff_exists.1 hB.1.2
    have hk : ops.getD i default = o := by simp [Array.getD_eq_getD_getElem?, ho]
    rw [List.map_cons, hk] at h
    exact wpOp_of_one ho (h _ (fun a' w' hs h' => ⟨hs, ih _ a' w' E hs hB.2 hE h'⟩))
def wpPlan (P : Program) (ops : Array Oper) (R : Exit → Act → World → Prop) (S : World → Prop) : List (List Nat × List Nat) → Act → World → Prop
  | [], a, w => R .normal a w
  | (hd, tl) :: ps, a, w => wpQuiet P ops S (fun a' => wpListK P ops R S (wpPlan P ops R S ps) (tl.map (ops.getD · default)) a' w) (hd.map (ops.getD · default)) a
def planB (ops : Array Oper) : List (List Nat × List Nat) → Array Bool → Bool
  | [], ls => (Region.ready .any ops ls).isEmpty
  | (hd, tl) :: ps, ls => pureB .any ops hd ls && forcedB ops tl (markB hd ls) && planB ops ps (markB tl (markB hd ls))
def planN : List (List Nat × List Nat) → Nat
  | [] => 0
  | (hd, tl) :: ps => hd.length + (tl.length + planN ps)
theorem any_plan (hsel : Region.noSelect ops = true) (hQ : ∀ c a d v w, R (.panic c) (Act.put a d v) w → R (.panic c) a w) (ps : List (List Nat × List Nat)) : ∀ (ls : Array Bool) (a : Act) (w : World), S w → planB ops ps ls = true →
    wpPlan P ops R S ps a w → wpAnyH P .any ops R S (planN ps) ls a w := by
  induction ps with
  | nil => intro ls a w hS hB h; exact ⟨by simpa [planB] using hB, h⟩
  | cons p ps ih =>
    obtain ⟨hd, tl⟩ := p
    intro ls a w hS hB h
    simp only [planB, Bool.and_eq_true] at hB
    refine any_headS hsel hQ _ w hS hd ls a hB.1.1 ?_
    exact wpQuiet_mono (fun a' h' => any_chain _ tl _ a' w _ hS hB.1.2 (fun a w hs he => ih _ a w hs hB.2 he) h') _ _ h
end
end Go.Proofs.YtmmoenbmgcplkaaGreatDoor
set_option linter.unusedVariables false
namespace Go.Proofs.YtmmoenbmgcplkaaGreatDoor
open Go Go.RowKit
section
variable {P : Program} {ops : Array Oper} {R : Exit → Act → World → Prop} {S : World → Prop}
end
end Go.Proofs.YtmmoenbmgcplkaaGreatDoor
set_option linter.unusedVariables false
set_option linter.unusedSimpArgs false
namespace Go.Proofs.YtmmoenbmgcplkaaGreatDoor
open Go Go.RowKit
def sixL : List UInt8 := [48, 49, 50, 51, 52, 53, 54, 55, 56, 57, 97, 98, 99, 100, 101, 102, 65, 66, 67, 68, 69, 70]
def digV (b : UInt8) : Nat := if 16 ≤ Lib.indexByte sixL b then (Lib.indexByte sixL b - 6).toNat else if 0 ≤ Lib.indexByte sixL b then (Lib.indexByte sixL b).toNat else 16
set_option maxRecDepth 100000 in
theorem digit_any (b : UInt8) (w : World) : Calls Tryz.prog 148 #[.int .u8 b.toNat] w fun e w' => e = .returned (.int .i64 (digV b : Nat)) ∧ w' = w := by
  have hi : Lib.indexByte sixL ((b.toNat : Int).toNat.toUInt8) = Lib.indexByte sixL b := by simp
  have hz : Lib.indexByte sixL b ≤ 22 ∧ -1 ≤ Lib.indexByte sixL b := by
    have h : ∀ n : Fin 256, Lib.indexByte sixL n.val.toUInt8 ≤ 22 ∧ -1 ≤ Lib.indexByte sixL n.val.toUInt8 := by decide +kernel
    have := h ⟨b.toNat, b.toNat_lt⟩
    simpa using this
  have hv : digV b = if 16 ≤ Lib.indexByte sixL b then (Lib.indexByte sixL b - 6).toNat else if 0 ≤ Lib.indexByte sixL b then (Lib.indexByte sixL b).toNat else 16 := rfl
  generalize Lib.indexByte sixL b = z at hi hz hv
  go_enter Tryz.func148, Tryz.ntmps148
  go_wp2_with fail
  refine (Tryz.strings_IndexByte ⟨#[48, 49, 50, 51, 52, 53, 54, 55, 56, 57, 97, 98, 99, 100, 101, 102, 65, 66, 67, 68, 69, 70]⟩ _ _).mono ?_
  rintro e w1 ⟨rfl, rfl⟩
  have hi' : Lib.indexByte (⟨#[48, 49, 50, 51, 52, 53, 54, 55, 56, 57, 97, 98, 99, 100, 101, 102, 65, 66, 67, 68, 69, 70]⟩ : ByteArray).data.toList ((b.toNat : Int).toNat.toUInt8) = z := hi
  rw [hi']
  have hw : IntKind.i64.wrap (z - 6) = z - 6 := by rw [IntKind.wrap_i64]; omega
  by_cases h1 : 16 ≤ z
  · rw [if_pos h1] at hv
    go_wp2_with fail
    all_goals (go_ret; exact ⟨congrArg _ (by show Value.int .i64 _ = _; congr 1; rw [hv]; omega), rfl⟩)
  · rw [if_neg h1] at hv
    by_cases h2 : 0 ≤ z
    · rw [if_pos h2] at hv
      go_wp2_with fail
      all_goals (go_ret; exact ⟨congrArg _ (by show Value.int .i64 _ = _; congr 1; rw [hv]; omega), rfl⟩)
    · rw [if_neg h2] at hv
      go_wp2_with fail
      all_goals (go_ret; exact ⟨congrArg _ (by show Value.int .i64 _ = _; congr 1; rw [hv]; omega), rfl⟩)
end Go.Proofs.YtmmoenbmgcplkaaGreatDoor
set_option linter.unusedVariables false
set_option linter.unusedSimpArgs false
namespace Go.Proofs.YtmmoenbmgcplkaaGreatDoor
open Go Go.RowKit
theorem wp_plan_from {P : Program} {id : Nat} {R : Exit → Act → World → Prop} {a : Act} {w : World} {l : List Oper} (w0 : World) (hq0 : Q w0 w) (ps : List (List Nat × List Nat)) (hm : P.follows .mixedOrders = true)
    (hB : (Region.noSelect l.toArray && planB l.toArray ps (Array.replicate l.length false) && decide (planN ps = l.length)) = true)
    (hQ : ∀ c a d v w, R (.panic c) (Act.put a d v) w → R (.panic c) a w)
    (h : wpPlan P l.toArray R (fun w' => ∃ m : QW w0, w' = m.val) ps a w.drew) : (Code.region id l.toArray true).wp P R a w := by
  simp only [Bool.and_eq_true, decide_eq_true_eq] at hB
  refine wp_region_held (S := fun w' => ∃ m : QW w0, w' = m.val) hm ?_
  have := any_plan hB.1.1 hQ ps (Array.replicate l.length false) a w.drew ⟨⟨w.drew, hq0.drew⟩, rfl⟩ hB.1.2 h
  rw [hB.2] at this
  exact this
def decR : List UInt8 → List UInt8 × Option Nat
  | [] => ([], none)
  | c :: r =>
    if c = 37 then
      match r with
      | x :: y :: t => if 15 < digV x ∨ 15 < digV y then ([], some 0) else (UInt8.ofNat (digV x * 16 + digV y) :: (decR t).1, (decR t).2.map (· + 3))
      | _ => ([], some 0)
    else (c :: (decR r).1, (decR r).2.map (· + 1))
theorem decR_plain (c : UInt8) (r : List UInt8) (h : c ≠ 37) : decR (c :: r) = (c :: (decR r).1, (decR r).2.map (· + 1)) := by
  rcases r with _ | ⟨x, _ | ⟨y, t⟩⟩ <;> rw [decR] <;> simp [h] <;> simp [decR, h]
theorem decR_esc (x y : UInt8) (t : List UInt8) : decR (37 :: x :: y :: t) = if 15 < digV x ∨ 15 < digV y then ([], some 0) else (UInt8.ofNat (digV x * 16 + digV y) :: (decR t).1, (decR t).2.map (· + 3)) := by
  rw [decR]; simp
theorem decR_s1 : decR [37] = ([], some 0) := by rw [decR] <;> simp
theorem decR_s2 (x : UInt8) : decR [37, x] = ([], some 0) := by rw [decR] <;> simp
def DecAt (l : List UInt8) (k : Nat) (o : List UInt8) : Prop := decR l = (o ++ (decR (l.drop k)).1, (decR (l.drop k)).2.map (· + k))
theorem DecAt.zero (l : List UInt8) : DecAt l 0 [] := by unfold DecAt; rcases h : decR l with ⟨a, b⟩; rcases b with _ | b <;> simp [h]
theorem drop_consB (l : List UInt8) (k : Nat) (h : k < l.length) : l.drop k = gB l k :: l.drop (k + 1) := by
  rw [List.drop_eq_getElem_cons h]; simp [gB, List.getD, h]
theorem DecAt.plain {l : List UInt8} {k : Nat} {o : List UInt8} (h : DecAt l k o) (hk : k < l.length) (hc : gB l k ≠ 37) : DecAt l (k + 1) (o ++ [gB l k]) := by
  unfold DecAt at *
  rw [h, drop_consB l k hk, decR_plain _ _ hc]
  rcases (decR (l.drop (k + 1))).2 with _ | b <;> simp <;> omega
theorem DecAt.short {l : List UInt8} {k : Nat} {o : List UInt8} (h : DecAt l k o) (hk : k < l.length) (hc : gB l k = 37) (hs : l.length < k + 3) : (decR l).2 = some k := by
  unfold DecAt at h
  have hd : (l.drop (k + 1)).length < 2 := by simp; omega
  rw [h, drop_consB l k hk, hc]
  rcases hr : l.drop (k + 1) with _ | ⟨x, _ | ⟨y, t⟩⟩
  · rw [decR_s1]; simp
  · rw [decR_s2]; simp
  · rw [hr] at hd; simp at hd; omega
theorem DecAt.bad {l : List UInt8} {k : Nat} {o : List UInt8} (h : DecAt l k o) (hk : k + 3 ≤ l.length) (hc : gB l k = 37) (hs : 15 < digV (gB l (k + 1)) ∨ 15 < digV (gB l (k + 2))) : (decR l).2 = some k := by
  unfold DecAt at h
  rw [h, drop_consB l k (by omega), hc, drop_consB l (k + 1) (by omega), drop_consB l (k + 2) (by omega), decR_esc]
  simp [hs]
theorem DecAt.esc {l : List UInt8} {k : Nat} {o : List UInt8} (h : DecAt l k o) (hk : k + 3 ≤ l.length) (hc : gB l k = 37) (hs : ¬ (15 < digV (gB l (k + 1)) ∨ 15 < digV (gB l (k + 2)))) :
    DecAt l (k + 3) (o ++ [UInt8.ofNat (digV (gB l (k + 1)) * 16 + digV (gB l (k + 2)))]) := by
  unfold DecAt at *
  rw [h, drop_consB l k (by omega), hc, drop_consB l (k + 1) (by omega), drop_consB l (k + 2) (by omega), decR_esc]
  rw [if_neg hs]
  rcases (decR (l.drop (k + 2 + 1))).2 with _ | b <;> simp <;> omega
theorem DecAt.done {l : List UInt8} {k : Nat} {o : List UInt8} (h : DecAt l k o) (hk : l.length ≤ k) : decR l = (o, none) := by
  unfold DecAt at h
  rw [h, List.drop_of_length_le hk]; simp [decR]
def decOut (l : List UInt8) : List UInt8 × Nat × Nat := match (decR l).2 with | none => ((decR l).1, 0, 0) | some k => ([], 52, k)
theorem shl16 (a : Nat) (h : a ≤ 15) : IntKind.i64.wrap ((a : Int) * 16) = (a : Int) * 16 := by rw [IntKind.wrap_i64]; omega
theorem or16 (a b : Nat) (ha : a ≤ 15) (hb : b ≤ 15) : bits .or .i64 ((a : Int) * 16) (b : Int) = (a : Int) * 16 + b := by
  have h : ∀ x y : Fin 16, bits .or .i64 ((x.val : Int) * 16) (y.val : Int) = (x.val : Int) * 16 + y.val := by decide +kernel
  exact h ⟨a, by omega⟩ ⟨b, by omega⟩
set_option maxRecDepth 100000 in
set_option maxHeartbeats 2000000 in
theorem Decode_any (l : List UInt8) (w : World) (hl : l.length ≤ 100000000) :
    Calls Tryz.prog 106 #[.string ⟨l.toArray⟩] w fun e w' => e = .returned (.tuple #[.string ⟨(decOut l).1.toArray⟩, .int .i64 (decOut l).2.1, .int .i64 (decOut l).2.2]) ∧ Q w w' := by
  go_enter Tryz.func106, Tryz.ntmps106
  go_wp2_with fail
  go_loopw [5, 6] (fun v i wr => ∃ (k : Nat) (o : List UInt8), k ≤ l.length ∧ i = .int .i64 k ∧ OwnB w wr v o ∧ o.length ≤ k ∧ Hid (DecAt l k o) ∧ Q w wr) (fun _ i _ => l.length - (intOf i).toNat)
  case atStart => exact ⟨0, [], by omega, rfl, OwnB.nil _ _, by simp, Lib.hid (DecAt.zero l), Q.refl _⟩
  case round =>
    obtain ⟨k, o, hk, rfl, hO, ho, HD, hq⟩ := hrel
    by_cases hlt : k < l.length
    · have hd : decide (k < l.length) = true := by simpa using hlt
      have HO := Lib.hid hO
      have HQ := Lib.hid hq
      clear hO hq
      by_cases hc : gB l k = 37
      · have hcn : (gB l k).toNat = 37 := by rw [hc]; rfl
        by_cases hsh : l.length < k + 3
        · have HR := Lib.hid (HD.out.short hlt hc hsh)
          have hi1 : (l.length : Int) - (k : Int) < 3 := by omega
          go_wp2_with fail
          go_ret3
          refine ⟨?_, HQ.out⟩
          show Ending.returned (.tuple #[_, _, _]) = _
          simp [decOut, HR.out]
        · have hi1 : ¬ (l.length : Int) - (k : Int) < 3 := by omega
          have hk1 : k + 1 < l.length := by omega
          have hk2 : k + 2 < l.length := by omega
          obtain ⟨x, hx⟩ : ∃ x, gB l (k + 1) = x := ⟨_, rfl⟩
          obtain ⟨y, hy⟩ : ∃ y, gB l (k + 2) = y := ⟨_, rfl⟩
          obtain ⟨X, hX⟩ : ∃ X, digV x = X := ⟨_, rfl⟩
          obtain ⟨Y, hY⟩ : ∃ Y, digV y = Y := ⟨_, rfl⟩
          have HBad : Hid (15 < X ∨ 15 < Y → (decR l).2 = some k) := Lib.hid (fun h => HD.out.bad (by omega) hc (by rw [hx, hy, hX, hY]; exact h))
          have HGood : Hid (¬ (15 < X ∨ 15 < Y) → DecAt l (k + 3) (o ++ [UInt8.ofNat (X * 16 + Y)])) := Lib.hid (fun h => by have := HD.out.esc (by omega) hc (by rw [hx, hy, hX, hY]; exact h); rwa [hx, hy, hX, hY] at this)
          by_cases hb1 : 15 < X
          · have HR := Lib.hid (HBad.out (.inl hb1))
            go_wp2_with fail
            refine (digit_any _ _).mono ?_
            rintro e wx ⟨rfl, rfl⟩
            rw [hX]
            go_wp2_with fail
            go_ret3
            refine ⟨?_, HQ.out⟩
            show Ending.returned (.tuple #[_, _, _]) = _
            simp [decOut, HR.out]
          · by_cases hb2 : 15 < Y
            · have HR := Lib.hid (HBad.out (.inr hb2))
              go_wp2_with fail
              refine (digit_any _ _).mono ?_
              rintro e wx ⟨rfl, rfl⟩
              rw [hX]
              go_wp2_with fail
              refine (digit_any _ _).mono ?_
              rintro e wx ⟨rfl, rfl⟩
              rw [hY]
              go_wp2_with fail
              go_ret3
              refine ⟨?_, HQ.out⟩
              show Ending.returned (.tuple #[_, _, _]) = _
              simp [decOut, HR.out]
            · have HR := Lib.hid (HGood.out (by omega))
              go_wp2_with fail
              refine (digit_any _ _).mono ?_
              rintro e wx ⟨rfl, rfl⟩
              rw [hX]
              go_wp2_with fail
              refine (digit_any _ _).mono ?_
              rintro e wx ⟨rfl, rfl⟩
              rw [hY]
              go_wp2_with fail
              have e1 := shl16 X (by omega)
              have e2 := or16 X Y (by omega) (by omega)
              have e3 : IntKind.u8.wrap ((X : Int) * 16 + (Y : Int)) = (X : Int) * 16 + (Y : Int) := by rw [IntKind.wrap_u8]; omega
              refine wp_region_noPanic ?_
              refine wp_plan_from w HQ.out [([0, 1, 2, 3, 4, 7, 8, 9, 10], [5]), ([6], [11]), ([12, 13], [14, 15, 16])] (by kernel_rfl) (by kernel_rfl) (fun _ _ _ _ _ h => h) ?_
              simp only [wpPlan, wpListK, List.map_cons, List.map_nil, Array.getD_eq_getD_getElem?, List.getElem?_toArray, List.getElem?_cons_succ, List.getElem?_cons_zero, Option.getD_some]
              (repeat (go_big_quiet_step (fail)))
              refine wpQuiet_nil ?_
              intro K hK
              go_wp2_with fail
              refine (digit_any _ _).mono ?_
              rintro e wx ⟨rfl, rfl⟩
              rw [hX]
              go_wp2_with fail
              refine hK.out _ _ ⟨⟨_, HQ.out.drew⟩, rfl⟩ ?_
              clear hK K
              (repeat (go_big_quiet_step (fail)))
              refine wpQuiet_nil ?_
              intro K hK
              go_wp2_with fail
              refine (digit_any _ _).mono ?_
              rintro e wx ⟨rfl, rfl⟩
              rw [hY]
              go_wp2_with fail
              refine hK.out _ _ ⟨⟨_, HQ.out.drew⟩, rfl⟩ ?_
              clear hK K
              (repeat (go_big_quiet_step (fail)))
              refine wpQuiet_nil ?_
              intro K hK
              go_wp2_with fail
              obtain ⟨WA, hWA⟩ : ∃ WA, (wx.alloc (Obj.cells #[Value.int IntKind.u8 ((X : Int) * 16 + (Y : Int))] 5)).drew = WA := ⟨_, rfl⟩
              have hqA : Q wx WA := by rw [← hWA]; exact ((Q.refl wx).alloc _).drew
              have hcA : WA.cell? ⟨wx.heap.size, 0, none⟩ = some (.int .u8 ((X : Int) * 16 + (Y : Int))) := by
                rw [← hWA]
                exact ((Q.refl _).drew).cell (by rw [cell_of_row _ _ _ _ _ _ (heap_alloc_new wx _)]; rfl)
              rw [hWA]
              clear hWA
              refine hK.out _ _ ⟨⟨WA, HQ.out.trans hqA⟩, rfl⟩ ?_
              clear hK K
              have hb8 : UInt8.ofNat (X * 16 + Y) = UInt8.ofNat (X * 16 + Y) := rfl
              have hu8 : ((UInt8.ofNat (X * 16 + Y)).toNat : Int) = (X : Int) * 16 + (Y : Int) := by
                rw [UInt8.toNat_ofNat']; omega
              intro K hK
              refine wpList_append_from rfl (.tmp 45) (.tmp 59) rfl w WA u5 o rfl (HO.out.q hqA) (HQ.out.trans hqA) ⟨wx.heap.size, 0, none⟩ [UInt8.ofNat (X * 16 + Y)] 1 1 rfl rfl (fun j h => ?_) (by constructor <;> omega) ?_
              · simp at h
                subst h
                rw [add_off, Nat.zero_add, hcA]
                simp only [u8V, List.getElem_cons_zero]
                rw [hu8]
              intro v2 w2 ho2 hq2 hgb
              refine wpList_nil ?_
              refine hK.out _ _ ⟨⟨w2, hq2⟩, rfl⟩ ?_
              clear hK K
              have HO2 := Lib.hid ho2
              have HQ2 := Lib.hid hq2
              have HD2 := Lib.hid HR.out
              clear ho2 hq2 hgb hqA hcA HO HQ HD HBad HGood
              intro K hK
              go_wp2_with fail
              refine hK.out _ _ ⟨⟨w2, HQ2.out⟩, rfl⟩ ?_
              clear hK K
              refine NoPanic.normal ?_
              go_wp2_with fail
              go_roundw
              case rel => exact ⟨k + 3, _, by omega, by go_num, HO2.out, by simp; omega, HD2, HQ2.out⟩
              case measure => simp [intOf]; omega
      · have hcn : (gB l k).toNat ≠ 37 := fun h => hc (UInt8.toNat_inj.mp (by simpa using h))
        go_wp2_with (at_builtin; refine wpList_append_b rfl (.tmp 17) (.tmp 21) rfl w _ _ _ rfl HO.out HQ.out [gB l k] 1 rfl rfl (by constructor <;> omega) ?_)
        intro v2 w2 ho2 hq2 _ _
        have HO2 := Lib.hid ho2
        have HQ2 := Lib.hid hq2
        have HD2 := Lib.hid (HD.out.plain hlt hc)
        clear ho2 hq2 HO HQ HD
        go_wp2_with fail
        go_roundw
        case rel => exact ⟨k + 1, _, by omega, by go_num, HO2.out, by simp; omega, HD2, HQ2.out⟩
        case measure => simp [intOf]; omega
    · have hdd := HD.out.done (by omega)
      have hcv := conv_b hO
      go_wp2_with fail
      go_ret3
      refine ⟨?_, hq⟩
      show Ending.returned (.tuple #[_, _, _]) = _
      simp [decOut, hdd]
end Go.Proofs.YtmmoenbmgcplkaaGreatDoor
set_option linter.unusedVariables false
set_option linter.unusedSimpArgs false
namespace Go.Proofs.YtmmoenbmgcplkaaGreatDoor
open Go Go.RowKit
def MaxL (w : World) : Prop := ∃ m, w.cell? ⟨4, 0, none⟩ = some (.int .i64 m)
structure U13 (w : World) : Prop where
  ml : MaxL w
  cv : Lib.CaseVar 3 Lib.caseA w
  ut : Lib.Utf8Tabs 5 6 w
theorem U13.q {w w' : World} (h : U13 w) (hq : Q w w') : U13 w' := ⟨h.ml.elim fun m hm => ⟨m, hq.cell hm⟩, Lib.CaseVar_below h.cv hq, Utf8Tabs_below h.ut hq⟩
theorem max_shaped {w : World} (h : w.ShapedOpen Tryz.prog) : MaxL w := cell_of_shapedOpen_int (g := 4) (t := 3) (zero := #[.int .i64 0]) h (of_decide_eq_true (by kernel_rfl)) (by kernel_rfl) rfl (by kernel_rfl) (by kernel_rfl) Tryz.underlying3
def cutB (c : UInt8) : List UInt8 → List UInt8 × List UInt8 × Bool
  | [] => ([], [], false)
  | x :: r => if x = c then ([], r, true) else (x :: (cutB c r).1, (cutB c r).2)
theorem index_one_cons (c x : UInt8) (r : List UInt8) : Lib.index (x :: r) [c] = if x = c then 0 else if Lib.index r [c] = -1 then -1 else Lib.index r [c] + 1 := by
  rw [Lib.index]
  by_cases h : x = c
  · subst h; simp
  · have h' : ¬ c = x := fun e => h e.symm
    simp [h, h']
theorem index_one_ge (c : UInt8) (l : List UInt8) : -1 ≤ Lib.index l [c] := by
  induction l with
  | nil => simp [Lib.index]
  | cons x r ih => rw [index_one_cons]; split <;> (try split) <;> omega
theorem cut_one (c : UInt8) (l : List UInt8) : Lib.cut l [c] = cutB c l := by
  induction l with
  | nil => simp [Lib.cut, Lib.index, cutB]
  | cons x r ih =>
    unfold cutB
    by_cases h : x = c
    · rw [if_pos h]; unfold Lib.cut; rw [index_one_cons, if_pos h]; simp
    · rw [if_neg h, ← ih]
      unfold Lib.cut
      rw [index_one_cons, if_neg h]
      have := index_one_ge c r
      by_cases h1 : Lib.index r [c] = -1
      · simp [h1]
      · have h2 : 0 ≤ Lib.index r [c] := by omega
        rw [if_neg h1, if_pos h2, if_pos (by omega)]
        have e : (Lib.index r [c] + 1).toNat = (Lib.index r [c]).toNat + 1 := by omega
        rw [e]; simp [Nat.add_assoc]
theorem cut_any (l : List UInt8) (c : UInt8) (w : World) (h : MaxL w) (hs : l.length < 4294967281) :
    Calls Tryz.prog 107 #[.string ⟨l.toArray⟩, .string ⟨#[c]⟩] w fun e w' => e = .returned (.tuple #[.string ⟨(cutB c l).1.toArray⟩, .string ⟨(cutB c l).2.1.toArray⟩, .bool (cutB c l).2.2]) ∧ Q w w' := by
  obtain ⟨m, hm⟩ := h
  refine (Tryz.strings_Cut ⟨l.toArray⟩ ⟨#[c]⟩ m w hs hm).mono ?_
  rintro e w' ⟨rfl, n, rfl⟩
  have hc := cut_one c l
  refine ⟨?_, below_drewNg w n⟩
  show Ending.returned (.tuple #[.string ⟨(Lib.cut l [c]).1.toArray⟩, .string ⟨(Lib.cut l [c]).2.1.toArray⟩, .bool (Lib.cut l [c]).2.2]) = _
  rw [hc]
end Go.Proofs.YtmmoenbmgcplkaaGreatDoor
set_option linter.unusedVariables false
set_option linter.unusedSimpArgs false
namespace Go.Proofs.YtmmoenbmgcplkaaGreatDoor
open Go Go.RowKit
def afT : List Nat := [0, 1, 2, 3, 4, 5, 6, 7, 8, 9, 10, 11, 12, 13, 14, 15, 16, 17, 18, 19, 20, 21, 22, 23, 24, 25, 26, 27, 28, 29, 30, 31, 32, 33, 34, 35, 36, 37, 38, 39, 40, 41, 42, 43, 44, 45, 46, 47, 48, 49, 50, 51, 52, 53, 54, 55, 56, 57, 58, 59, 60, 61, 62, 63, 64, 97, 98, 99, 100, 101, 102, 103, 104, 105, 106, 107, 108, 109, 110, 111, 112, 113, 114, 115, 116, 117, 118, 119, 120, 121, 122, 91, 92, 93, 94, 95, 96, 65, 66, 67, 68, 69, 70, 71, 72, 73, 74, 8490, 76, 77, 78, 79, 80, 81, 82, 383, 84, 85, 86, 87, 88, 89, 90, 123, 124, 125, 126, 127]
def orbT : List (Nat × Nat) := [(75, 107), (83, 115), (107, 8490), (115, 383), (181, 924), (197, 229), (223, 7838), (229, 8491), (304, 304), (305, 305), (383, 83), (452, 453), (453, 454), (454, 452), (455, 456), (456, 457), (457, 455), (458, 459), (459, 460), (460, 458), (497, 498), (498, 499), (499, 497), (837, 921), (912, 8147), (914, 946), (917, 949), (920, 952), (921, 953), (922, 954), (924, 956), (928, 960), (929, 961), (931, 962), (934, 966), (937, 969), (944, 8163), (946, 976), (949, 1013), (952, 977), (953, 8126), (954, 1008), (956, 181), (960, 982), (961, 1009), (962, 963), (963, 931), (966, 981), (969, 8486), (976, 914), (977, 1012), (981, 934), (982, 928), (1008, 922), (1009, 929), (1012, 920), (1013, 917), (1042, 1074), (1044, 1076), (1054, 1086), (1057, 1089), (1058, 1090), (1066, 1098), (1074, 7296), (1076, 7297), (1086, 7298), (1089, 7299), (1090, 7300), (1098, 7302), (1122, 1123), (1123, 7303), (7296, 1042), (7297, 1044), (7298, 1054), (7299, 1057), (7300, 7301), (7301, 1058), (7302, 1066), (7303, 1122), (7304, 42570), (7776, 7777), (7777, 7835), (7835, 7776), (7838, 223), (8126, 837), (8147, 912), (8163, 944), (8486, 937), (8490, 75), (8491, 197), (42570, 42571), (42571, 7304), (64261, 64262), (64262, 64261)]
structure Folds (w : World) : Prop where
  af : ∀ x, x < 128 → w.cell? ⟨1, x, none⟩ = some (.int .u16 (afT.getD x 0 : Nat))
  orb : ∃ R o cap, w.cell? ⟨2, 0, none⟩ = some (.slice (some ⟨R, o, none⟩) 94 cap) ∧ ∀ i, i < 94 → w.cell? ⟨R, o + i * 2, none⟩ = some (.int .u16 ((orbT.getD i (0, 0)).1 : Nat)) ∧ w.cell? ⟨R, o + i * 2 + 1, none⟩ = some (.int .u16 ((orbT.getD i (0, 0)).2 : Nat))
theorem Folds.q {w w' : World} (h : Folds w) (hq : Q w w') : Folds w' :=
  ⟨fun x hx => hq.cell (h.af x hx), by
    obtain ⟨R, o, cap, h1, h2⟩ := h.orb
    exact ⟨R, o, cap, hq.cell h1, fun i hi => ⟨hq.cell (h2 i hi).1, hq.cell (h2 i hi).2⟩⟩⟩
def idxOrb (x : Nat) : Nat := if x = 383 then 10 else 88
def foldN (x : Nat) : Nat := if x < 128 then afT.getD x 0 else (orbT.getD (idxOrb x) (0, 0)).2
def InOrb (x : Nat) : Prop := x < 128 ∨ x = 383 ∨ x = 8490
theorem foldN_in : ∀ x, InOrb x → InOrb (foldN x) ∧ foldN x ≤ 8490 := by
  have h1 : ∀ n : Fin 128, (foldN n.val < 128 ∨ foldN n.val = 383 ∨ foldN n.val = 8490) ∧ foldN n.val ≤ 8490 := by decide +kernel
  have h2 : (foldN 383 < 128 ∨ foldN 383 = 383 ∨ foldN 383 = 8490) ∧ foldN 383 ≤ 8490 := by decide +kernel
  have h3 : (foldN 8490 < 128 ∨ foldN 8490 = 383 ∨ foldN 8490 = 8490) ∧ foldN 8490 ≤ 8490 := by decide +kernel
  intro x hx
  rcases hx with h | rfl | rfl
  · exact h1 ⟨x, h⟩
  · exact h2
  · exact h3
def wayN (a r : Nat) : Nat := if r = a then 0 else if foldN r = a then 1 else if foldN (foldN r) = a then 2 else 3
theorem way_first : ∀ a, a < 128 → wayN a (foldN a) ≤ 2 := by
  have h : ∀ n : Fin 128, wayN n.val (foldN n.val) ≤ 2 := by decide +kernel
  exact fun a ha => h ⟨a, ha⟩
theorem way_next {a r : Nat} (h : r ≠ a) (h2 : wayN a r ≤ 2) : wayN a (foldN r) < wayN a r := by
  unfold wayN at *
  rw [if_neg h] at *
  by_cases h1 : foldN r = a
  · simp [h1]
  · rw [if_neg h1] at *
    by_cases h3 : foldN (foldN r) = a
    · simp [h3, h1]
    · rw [if_neg h3] at h2; omega
theorem orb_sorted : ∀ x, x = 383 ∨ x = 8490 → (∀ j, j < 94 → ((orbT.getD j (0, 0)).1 < x ↔ j < idxOrb x)) ∧ (orbT.getD (idxOrb x) (0, 0)).1 = x := by
  have h1 : (∀ j : Fin 94, ((orbT.getD j.val (0, 0)).1 < 383 ↔ j.val < idxOrb 383)) ∧ (orbT.getD (idxOrb 383) (0, 0)).1 = 383 := by decide +kernel
  have h2 : (∀ j : Fin 94, ((orbT.getD j.val (0, 0)).1 < 8490 ↔ j.val < idxOrb 8490)) ∧ (orbT.getD (idxOrb 8490) (0, 0)).1 = 8490 := by decide +kernel
  intro x hx
  rcases hx with rfl | rfl
  · exact ⟨fun j hj => h1.1 ⟨j, hj⟩, h1.2⟩
  · exact ⟨fun j hj => h2.1 ⟨j, hj⟩, h2.2⟩
theorem orb_bd : ∀ j, j < 94 → (orbT.getD j (0, 0)).1 ≤ 65535 := by
  have h : ∀ j : Fin 94, (orbT.getD j.val (0, 0)).1 ≤ 65535 := by decide +kernel
  exact fun j hj => h ⟨j, hj⟩
set_option maxRecDepth 100000 in
set_option maxHeartbeats 2000000 in
theorem SimpleFold_any (x : Nat) (hx : InOrb x) (w : World) (hF : Folds w) : Calls Tryz.prog 101 #[.int .i32 (x : Int)] w fun e w' => e = .returned (.int .i32 (foldN x : Nat)) ∧ Q w w' := by
  rcases hx with hx | hx
  · have c1 := hF.af x hx
    have hr : foldN x = afT.getD x 0 := by unfold foldN; rw [if_pos hx]
    have hb := (foldN_in x (.inl hx)).2
    rw [← hr] at c1
    have HR := Lib.hid hr
    clear hr hF
    generalize foldN x = f at *
    go_enter Tryz.func101, Tryz.ntmps101
    go_wp2_with fail
    go_ret
    exact ⟨rfl, Q.refl _⟩
  · obtain ⟨R, o, cap, c0, hc⟩ := hF.orb
    have HC := Lib.hid hc
    have HS := Lib.hid (orb_sorted x hx)
    have hxb : 128 ≤ x ∧ x ≤ 8490 := by omega
    obtain ⟨hxl, hxh⟩ := hxb
    have HR : Hid (foldN x = (orbT.getD (idxOrb x) (0, 0)).2) := Lib.hid (by unfold foldN; rw [if_neg (by omega)])
    have hb := (foldN_in x (.inr hx)).2
    have hi : idxOrb x < 94 := by unfold idxOrb; split <;> omega
    clear hF hc hx
    generalize foldN x = f at *
    generalize idxOrb x = ix at *
    go_enter Tryz.func101, Tryz.ntmps101
    go_wp2_with fail
    go_loop [3, 4] (fun lo hi => ∃ a b : Nat, a ≤ ix ∧ ix ≤ b ∧ b ≤ 94 ∧ lo = .int .i64 (a : Int) ∧ hi = .int .i64 (b : Int)) (fun lo hi => (intOf hi).toNat - (intOf lo).toNat)
    case atStart => exact ⟨0, 94, by omega, by omega, by omega, rfl, rfl⟩
    case round =>
      obtain ⟨a, b, ha, hb2, hb3, rfl, rfl⟩ := hrel
      by_cases hab : a < b
      · have g1 : decide (a < b) = true := by simpa using hab
        obtain ⟨m, hm⟩ : ∃ m : Nat, m = (a + b) / 2 := ⟨_, rfl⟩
        have hm1 : a ≤ m ∧ m < b := by omega
        have hm2 : ((a : Int) + (b : Int)) / 2 = (m : Int) := by omega
        obtain ⟨hm3, hm4⟩ := hm1
        have cm := (HC.out m (by omega)).1
        have hs := HS.out.1 m (by omega)
        obtain ⟨F, hF⟩ : ∃ F, (orbT.getD m (0, 0)).1 = F := ⟨_, rfl⟩
        rw [hF] at cm hs
        have hFb := orb_bd m (by omega)
        rw [hF] at hFb
        clear hF hm
        by_cases hlt : F < x
        · have hmi : m < ix := hs.1 hlt
          have hlt2 : (F : Int) < (x : Int) := by omega
          clear hs
          go_wp2_with fail
          go_round
          case rel => exact ⟨m + 1, b, by omega, hb2, hb3, by go_num, rfl⟩
          case measure => simp [intOf]; omega
        · have hmi : ¬ m < ix := fun h => hlt (hs.2 h)
          have hlt2 : ¬ (F : Int) < (x : Int) := by omega
          clear hs
          go_wp2_with fail
          go_round
          case rel => exact ⟨a, m, ha, by omega, by omega, rfl, rfl⟩
          case measure => simp [intOf]; omega
      · obtain rfl : a = ix := by omega
        have cm := (HC.out a hi).1
        have cn := (HC.out a hi).2
        rw [HS.out.2] at cm
        rw [← HR.out] at cn
        have hai : (a : Int) < 94 := by omega
        have hab2 : ¬ (a : Int) < (b : Int) := by omega
        clear hab hb2 hb3 ha
        go_wp2_with fail
        go_ret
        exact ⟨rfl, Q.refl _⟩
end Go.Proofs.YtmmoenbmgcplkaaGreatDoor
