/- Texts of this proof, laid into one: UrI, UrQ, UrR, UrT, SgC, TiedS, UrY, UrZ, UrU, UrV, VaA. -/
import Derived.Test.YtmmoenbmgcplkaaGreatDoorMn09
import Derived.Test.YtmmoenbmgcplkaaGreatDoorRows
import Derived.Test.YtmmoenbmgcplkaaGreatDoorLayS
import Derived.ProofKit
import Derived.LaidMore
import Derived.LaidSub
import Derived.LaidHandle
import Derived.MakeChecks
import Derived.Lay
import GoSem.PinnedTables
import Derived.Lib.LaidU8
import Derived.Lib.LaidTab
import Derived.Lib.LaidCase
import Derived.OpenShut
import Derived.Stop.Joined
/- uri.Bucket, walked. -/
set_option linter.unusedVariables false
set_option linter.unusedSimpArgs false
namespace Go.Proofs.YtmmoenbmgcplkaaGreatDoor
open Go Go.RowKit
theorem bucket_len {s : List UInt8} (h : s.length < 3 ∨ 63 < s.length) : bucketL s = false := by
  unfold bucketL
  rcases h with h | h
  · rw [decide_eq_false (by omega : ¬ 3 ≤ s.length)]; simp
  · rw [decide_eq_false (by omega : ¬ s.length ≤ 63)]; simp
theorem gL_mem {ls : List (List UInt8)} {k : Nat} (h : k < ls.length) : gL ls k ∈ ls := by
  have : gL ls k = ls[k] := by simp [gL, List.getD, h]
  rw [this]; exact List.getElem_mem h
theorem bucket_bad {s : List UInt8} {k : Nat} (h : k < (splitC 46 s).length) (hb : labOk (gL (splitC 46 s) k) = false) : bucketL s = false := by
  have : (splitC 46 s).all labOk = false := by
    rw [List.all_eq_false]
    exact ⟨_, gL_mem h, by rw [hb]; simp⟩
  unfold bucketL
  rw [this]; simp
theorem countP_snoc (ls : List (List UInt8)) (k : Nat) (h : k < ls.length) : (ls.take (k + 1)).countP numL = (ls.take k).countP numL + if numL (gL ls k) then 1 else 0 := by
  have e : gL ls k = ls[k] := by simp [gL, List.getD, h]
  rw [List.take_add_one, List.getElem?_eq_getElem h, List.countP_append, e]
  simp [List.countP_cons]
theorem all_snoc (ls : List (List UInt8)) (k : Nat) (h : k < ls.length) (h1 : (ls.take k).all labOk = true) (h2 : labOk (gL ls k) = true) : (ls.take (k + 1)).all labOk = true := by
  have e : gL ls k = ls[k] := by simp [gL, List.getD, h]
  rw [List.take_add_one, List.getElem?_eq_getElem h, List.all_append, h1, ← e]
  simp [h2]
end Go.Proofs.YtmmoenbmgcplkaaGreatDoor
/- The chapter's examples, plainly. -/
set_option linter.unusedVariables false
set_option linter.unusedSimpArgs false
namespace Go.Proofs.YtmmoenbmgcplkaaGreatDoor
open Go Go.RowKit
def ex1 : List UInt8 := [47, 98, 47, 97, 37, 50, 48, 98, 63, 118, 101, 114, 115, 105, 111, 110, 115, 38, 112, 114, 101, 102, 105, 120, 61, 120, 37, 50, 70, 38]
def exV : List UInt8 := [118, 101, 114, 115, 105, 111, 110, 115]
def exP : List UInt8 := [112, 114, 101, 102, 105, 120]
theorem ex1_tgt : tgtL ex1 = ([47, 98, 47, 97, 32, 98], [(exV, []), (exP, [120, 47])], 0, 0) := by decide +kernel
theorem ex2_tgt : tgtL [47, 63, 97, 61, 37, 52, 38, 98, 61, 49] = ([], [], 52, 4) := by decide +kernel
theorem ex_split : splitU [47, 98, 47, 107, 47, 108] = ([98], [107, 47, 108]) := by decide +kernel
theorem ex_enc1 : encL true [97, 32, 98, 47] = [97, 37, 50, 48, 98, 37, 50, 70] := by decide +kernel
theorem ex_enc2 : encL false [97, 32, 98, 47] = [97, 37, 50, 48, 98, 47] := by decide +kernel
theorem ex_b1 : bucketL [109, 121, 45, 98, 46, 49] = true := by decide +kernel
theorem ex_b2 : bucketL [49, 46, 50, 46, 51, 46, 52] = false := by decide +kernel
theorem ex_map : [(exV, ([] : List UInt8)), (exP, [120, 47])].map encP = [(exV, []), (exP, [120, 37, 50, 70])] := by decide +kernel
theorem ex_sort : sortP [(exV, []), (exP, [120, 37, 50, 70])] = [(exP, [120, 37, 50, 70]), (exV, [])] := by
  have h : (ltOf pcmp) (exP, [120, 37, 50, 70]) (exV, []) = true := by decide +kernel
  unfold sortP
  simp [List.mergeSort, List.MergeSort.Internal.splitInTwo, h]
theorem ex_canon : canonL [(exV, []), (exP, [120, 47])] = [112, 114, 101, 102, 105, 120, 61, 120, 37, 50, 70, 38, 118, 101, 114, 115, 105, 111, 110, 115, 61] := by
  unfold canonL partsL
  rw [ex_map, ex_sort]
  decide +kernel
end Go.Proofs.YtmmoenbmgcplkaaGreatDoor
/- The chapter's examples, walked. -/
set_option linter.unusedVariables false
set_option linter.unusedSimpArgs false
namespace Go.Proofs.YtmmoenbmgcplkaaGreatDoor
open Go Go.RowKit
end Go.Proofs.YtmmoenbmgcplkaaGreatDoor
/- UriBuckets: the law. -/
set_option linter.unusedVariables false
set_option linter.unusedSimpArgs false
namespace Go.Proofs.YtmmoenbmgcplkaaGreatDoor
open Go Go.RowKit
theorem splitC_mem (c : UInt8) (l : List UInt8) : ∀ b ∈ l, b = c ∨ ∃ p ∈ splitC c l, b ∈ p := by
  induction l with
  | nil => simp
  | cons x r ih =>
    intro b hb
    by_cases hx : x = c
    · rcases List.mem_cons.1 hb with rfl | hb
      · exact .inl hx
      · rcases ih b hb with h | ⟨p, hp, h⟩
        · exact .inl h
        · refine .inr ⟨p, ?_, h⟩
          unfold splitC; rw [if_pos hx]; exact List.mem_cons_of_mem _ hp
    · unfold splitC; rw [if_neg hx]
      rcases hs : splitC c r with _ | ⟨h, t⟩
      · exact absurd hs (splitC_ne c r)
      · rcases List.mem_cons.1 hb with rfl | hb
        · exact .inr ⟨b :: h, List.mem_cons_self, List.mem_cons_self⟩
        · rcases ih b hb with h1 | ⟨p, hp, h1⟩
          · exact .inl h1
          · rw [hs] at hp
            rcases List.mem_cons.1 hp with rfl | hp
            · exact .inr ⟨x :: p, List.mem_cons_self, List.mem_cons_of_mem _ h1⟩
            · exact .inr ⟨p, List.mem_cons_of_mem _ hp, h1⟩
theorem chr_free : ∀ b : UInt8, chrOk b = true ∨ b = 46 → freeL true b = true ∧ b ≠ 47 := by
  have h : ∀ n : Fin 256, chrOk n.val.toUInt8 = true ∨ n.val.toUInt8 = 46 → freeL true n.val.toUInt8 = true ∧ n.val.toUInt8 ≠ 47 := by decide +kernel
  intro b hb
  have := h ⟨b.toNat, b.toNat_lt⟩
  simp only [UInt8.ofNat_toNat, Nat.toUInt8_eq] at this
  exact this hb
theorem encL_id {l : List UInt8} (h : ∀ b ∈ l, freeL true b = true) : encL true l = l := by
  unfold encL
  induction l with
  | nil => rfl
  | cons a r ih =>
    rw [List.flatMap_cons, ih (fun b hb => h b (List.mem_cons_of_mem _ hb))]
    unfold encB; rw [if_pos (h a List.mem_cons_self)]; rfl
theorem cutB_none {c : UInt8} {l : List UInt8} (h : ∀ b ∈ l, b ≠ c) : cutB c l = (l, [], false) := by
  induction l with
  | nil => rfl
  | cons a r ih =>
    unfold cutB
    rw [if_neg (h a List.mem_cons_self), ih (fun b hb => h b (List.mem_cons_of_mem _ hb))]
theorem bucket_facts {s : List UInt8} (h : bucketL s = true) : 3 ≤ s.length ∧ s.length ≤ 63 ∧ encL true s = s ∧ splitU (47 :: s) = (s, []) ∧ gB s 0 ≠ 45 ∧ gB s 0 ≠ 46 := by
  unfold bucketL at h
  simp only [Bool.and_eq_true, decide_eq_true_eq] at h
  obtain ⟨⟨⟨h1, h2⟩, h3⟩, _⟩ := h
  rw [List.all_eq_true] at h3
  have hb : ∀ b ∈ s, chrOk b = true ∨ b = 46 := by
    intro b hm
    rcases splitC_mem 46 s b hm with h | ⟨p, hp, h⟩
    · exact .inr h
    · have := h3 p hp
      unfold labOk at this
      simp only [Bool.and_eq_true] at this
      exact .inl (List.all_eq_true.1 this.2 b h)
  refine ⟨h1, h2, encL_id (fun b hm => (chr_free b (hb b hm)).1), ?_, ?_⟩
  · have := cutB_none (c := 47) (l := s) (fun b hm => (chr_free b (hb b hm)).2)
    simp [splitU, this]
  · rcases s with _ | ⟨x, r⟩
    · simp at h1
    · have hg : gB (x :: r) 0 = x := by simp [gB]
      rw [hg]
      by_cases hx : x = 46
      · exfalso
        have : labOk [] = true := h3 [] (by unfold splitC; rw [if_pos hx]; exact List.mem_cons_self)
        revert this; decide
      · refine ⟨?_, hx⟩
        intro e
        rcases hs : splitC 46 r with _ | ⟨h, t⟩
        · exact absurd hs (splitC_ne 46 r)
        · have : labOk (x :: h) = true := h3 (x :: h) (by unfold splitC; rw [if_neg hx, hs]; exact List.mem_cons_self)
          unfold labOk labBad at this
          rw [e] at this
          simp [gB] at this
end Go.Proofs.YtmmoenbmgcplkaaGreatDoor
/- sign: stop, why, many, word, scope, Text, Key, signature. -/
set_option linter.unusedVariables false
set_option linter.unusedSimpArgs false
namespace Go.Proofs.YtmmoenbmgcplkaaGreatDoor
open Go Go.RowKit
def ErrG (w : World) : Prop := w.cell? ⟨0, 0, none⟩ = some (.iface 215 (.agg #[.pointer (some ⟨10, 60, none⟩)]))
structure S17 (w : World) : Prop where
  u : U13 w
  tab : Tab w
  et : ErrG w
  fo : Folds w
theorem S17.q {w w' : World} (h : S17 w) (hq : Q w w') : S17 w' := ⟨h.u.q hq, h.tab.q hq, hq.cell h.et, h.fo.q hq⟩
theorem stop_any (c : Int) (w : World) : Calls Tryz.prog 68 #[.int .i64 c] w fun e w' => (∃ b, e = .returned (.iface 101 (.pointer (some ⟨b, 0, none⟩))) ∧ FaultAt w' b c 0) ∧ Q w w' := by
  go_enter Tryz.func68, Tryz.ntmps68
  go_wp2
  go_ret
  exact ⟨⟨w.heap.size, rfl, (MapKept.heap_alloc w _).1⟩, (Q.refl _).alloc _⟩
theorem as_nil (x : Value) (w : World) : Calls Tryz.prog 74 #[.nilIface, x] w fun e w' => e = .returned (.bool false) ∧ w' = w := by
  go_enter Tryz.func74, Tryz.ntmps74
  go_wp2
  go_ret
  exact ⟨rfl, rfl⟩
theorem why_nil (w : World) : Calls Tryz.prog 31 #[.nilIface] w fun e w' => e = .returned (.int .i64 0) ∧ Q w w' := by
  go_enter Tryz.func31, Tryz.ntmps31
  go_wp2_with fail
  refine (as_nil _ _).mono ?_
  rintro e w' ⟨rfl, rfl⟩
  go_wp2_with fail
  go_ret
  exact ⟨rfl, (Q.refl _).alloc _⟩
theorem as_any (b bt : Nat) (w : World) (he : ErrG w) (ht : w.heap[bt]? = some (.cells #[.pointer none] 101 (0, 0))) :
    Calls Tryz.prog 74 #[.iface 101 (.pointer (some ⟨b, 0, none⟩)), .iface 103 (.pointer (some ⟨bt, 0, none⟩))] w fun e w' => e = .returned (.bool true) ∧ w'.heap[bt]? = some (.cells #[.pointer (some ⟨b, 0, none⟩)] 101 (0, 0)) ∧ w.grownBy w' (some bt) := by
  have c0 : w.cell? ⟨bt, 0, none⟩ = some (.pointer none) := by rw [cell_of_row _ _ _ _ _ _ ht]; rfl
  refine (as_hit ⟨b, 0, none⟩ ⟨bt, 0, none⟩ _ w he c0 (frozen_of_row w bt 0 _ _ ht)).mono ?_
  rintro e w' ⟨rfl, rfl⟩
  obtain ⟨W, hW⟩ : ∃ W, ((((w.alloc (.cells #[.pointer (some ⟨bt, 0, none⟩)] 103)).alloc (.cells #[.pointer (some ⟨10, 103, none⟩), .pointer (some ⟨w.heap.size, 0, none⟩), .int .u64 150] 168)).alloc (.cells #[.pointer (some ⟨10, 103, none⟩), .pointer (some ⟨w.heap.size, 0, none⟩), .int .u64 150] 168)).alloc (.cells #[.pointer (some ⟨b, 0, none⟩)] 101)) = W := ⟨_, rfl⟩
  have hq : Q w W := by rw [← hW]; exact ((((Q.refl w).alloc _).alloc _).alloc _).alloc _
  rw [hW]
  refine ⟨rfl, ?_, gb_set (hq.gb (some bt)) 0 _⟩
  rw [heap_setCell_any W bt 0 _ _ _ _ (hq.block ht)]; rfl
theorem PB.q' {w w' : World} {b : Nat} {p : PairD} (h : PB w b p) (hq : Q w w') : PB w' b p := hq.block h
theorem gU_get (l : List PairD) (j : Nat) (h : j < l.length) : gU l j = l[j] := by simp [gU, List.getD, h]
theorem why_fault (b : Nat) (c a : Int) (w : World) (h : FaultAt w b c a) (hg : ErrG w) : Calls Tryz.prog 31 #[.iface 101 (.pointer (some ⟨b, 0, none⟩))] w fun e w' => e = .returned (.int .i64 c) ∧ Q w w' := by
  have hq1 : Q w (w.alloc (.cells #[.pointer none] 101)) := (Q.refl w).alloc _
  have HA := Lib.hid (as_any b w.heap.size (w.alloc (.cells #[.pointer none] 101)) (hq1.cell hg) (MapKept.heap_alloc w _).1)
  have HQ1 := Lib.hid hq1
  have HF := Lib.hid h
  clear hq1 h hg
  go_enter Tryz.func31, Tryz.ntmps31
  go_wp2_with fail
  refine HA.out.mono ?_
  rintro e w2 ⟨rfl, hh, hg⟩
  have hq2 : Q w w2 := Below.grown HQ1.out hg HQ1.out.size (fun k hk => by cases hk; exact Nat.le_refl _)
  have c0 := (HF.out.q hq2).cell0
  have c1 : w2.cell? ⟨w.heap.size, 0, none⟩ = some (.pointer (some ⟨b, 0, none⟩)) := by rw [cell_of_row _ _ _ _ _ _ hh]; rfl
  have HQ2 := Lib.hid hq2
  clear hh hg hq2
  go_wp2_with fail
  go_ret
  exact ⟨rfl, HQ2.out⟩
/-- How many of a name. -/
def manyL (ps : List PairD) (t : List UInt8) : Nat := ps.countP fun p => smL p.1 == smL t
theorem many_snoc (ps : List PairD) (t : List UInt8) (k : Nat) (h : k < ps.length) : manyL (ps.take (k + 1)) t = manyL (ps.take k) t + if smL (gU ps k).1 = smL t then 1 else 0 := by
  unfold manyL
  rw [take_snocP ps k h, List.countP_append]
  simp [List.countP_cons, beq_iff_eq]
set_option maxRecDepth 100000 in
set_option maxHeartbeats 1000000 in
theorem many_any (A : Option Addr) (n cap : Nat) (ps : List PairD) (t : List UInt8) (w : World) (h : PairsAt w A n ps) (hn : n ≤ 1100000) (hps : ∀ p ∈ ps, p.1.length ≤ 10000000 ∧ p.2.length ≤ 10000000) (ht : t.length ≤ 1000) (hta : ∀ b ∈ t, b.toNat < 128) (hF : Folds w) :
    Calls Tryz.prog 26 #[.slice A n cap, .string ⟨t.toArray⟩] w fun e w' => e = .returned (.int .i64 (manyL ps t : Nat)) ∧ Q w w' := by
  obtain rfl := h.1
  have HP := Lib.hid h
  have HPS := Lib.hid hps
  have HTA := Lib.hid hta
  have HF := Lib.hid hF
  clear h hps hta hF
  go_enter Tryz.func26, Tryz.ntmps26
  go_wp2_with fail
  go_loopw [5, 10] (fun dv i wr => ∃ k D : Nat, k ≤ ps.length ∧ D ≤ k ∧ dv = .int .i64 (D : Int) ∧ i = .int .i64 (k : Int) ∧ Hid (manyL (ps.take k) t = D) ∧ Hid (Q w wr)) (fun _ i _ => ps.length - (intOf i).toNat)
  case atStart => exact ⟨0, 0, by omega, by omega, rfl, rfl, Lib.hid (by simp [manyL]), Lib.hid (Q.refl _)⟩
  case round =>
    obtain ⟨k, D, hk, hDk, rfl, rfl, HD, HQ⟩ := hrel
    by_cases hlt : k < ps.length
    · have g1 : decide (k < ps.length) = true := by simpa using hlt
      obtain ⟨g, off, rfl, e0, e1⟩ := (HP.out.q HQ.out).at hlt
      have HSN := Lib.hid (many_snoc ps t k hlt)
      obtain ⟨⟨x, y⟩, hxy⟩ : ∃ p, gU ps k = p := ⟨_, rfl⟩
      rw [hxy] at e0 e1 HSN
      simp only at e0 e1 HSN
      have hxl : x.length ≤ 10000000 := by
        have := HPS.out _ (List.getElem_mem hlt)
        rw [← gU_get _ _ hlt, hxy] at this; exact this.1
      clear hxy
      rename World => wa
      obtain ⟨hb5, hq5⟩ := PB.make wa (x, y)
      have hbn : (wa.alloc (.cells (pairL ([], [])).toArray 37)).heap[wa.heap.size]? = some (.cells (pairL ([], [])).toArray 37 (0, 0)) := (MapKept.heap_alloc wa _).1
      obtain ⟨N5, hN5⟩ : ∃ G, wa.heap.size = G := ⟨_, rfl⟩
      rw [hN5] at hb5 hq5 hbn
      obtain ⟨W4, hW4⟩ : ∃ W, wa.alloc (.cells (pairL ([], [])).toArray 37) = W := ⟨_, rfl⟩
      rw [hW4] at hb5 hq5 hbn
      have hW4b : wa.alloc (.cells #[.string ⟨#[]⟩, .string ⟨#[]⟩] 37) = W4 := hW4
      clear hW4
      go_upto_region 5 with (refine wpList_store_row rfl 37 _ _ rfl N5 (pairL (x, y)).toArray (by rfl) (by rfl) 37 _ hbn infoP rfl (pairL_one _) ?_)
      obtain ⟨W5, hW5⟩ : ∃ W, W4.setRow N5 (pairL (x, y)).toArray = W := ⟨_, rfl⟩
      rw [hW5] at hb5 hq5 ⊢
      have HQ5 := Lib.hid (HQ.out.trans hq5)
      have HB5 := Lib.hid hb5
      have b0 := hb5.c0
      simp only at b0
      clear hbn hN5 hW4b hW5 hb5 hq5 e0 e1 HQ
      go_wp2_with fail
      refine (EqualFold_any x t _ (by omega) ht HTA.out (HF.out.q HQ5.out)).mono ?_
      rintro e W6 ⟨r, rfl, hr, hq6⟩
      have HQ6 := Lib.hid (HQ5.out.trans hq6)
      have b1 := (HB5.out.q' hq6).c0
      simp only at b1
      have HLN : Hid (x.length ≠ t.length → smL x ≠ smL t) := Lib.hid (fun h e => h (by have := congrArg List.length e; simpa [smL] using this))
      clear b0 hq6
      by_cases hxt : x.length = t.length
      · have hr2 := hr hxt
        have q1 : ((x.length : Int) == (t.length : Int)) = true := by simp only [beq_iff_eq]; omega
        clear hr hxt HLN
        by_cases hsm : smL x = smL t
        · have hr3 : r = true := by rw [hr2]; exact decide_eq_true hsm
          have HN2 : manyL (ps.take (k + 1)) t = D + 1 := by rw [HSN.out, HD.out, if_pos hsm]
          have HN3 := Lib.hid HN2
          clear hr2 hsm HN2 HSN HD
          subst hr3
          go_wp2_with fail
          go_roundw
          case rel => exact ⟨k + 1, D + 1, by omega, by omega, by go_num, by go_num, HN3, HQ6⟩
          case measure => simp [intOf]; omega
        · have hr3 : r = false := by rw [hr2]; exact decide_eq_false hsm
          have HN2 : manyL (ps.take (k + 1)) t = D := by rw [HSN.out, HD.out, if_neg hsm]; rfl
          have HN3 := Lib.hid HN2
          clear hr2 hsm HN2 HSN HD
          subst hr3
          go_wp2_with fail
          go_roundw
          case rel => exact ⟨k + 1, D, by omega, by omega, rfl, by go_num, HN3, HQ6⟩
          case measure => simp [intOf]; omega
      · have q1 : ((x.length : Int) == (t.length : Int)) = false := by rw [beq_eq_false_iff_ne]; omega
        have HN2 : manyL (ps.take (k + 1)) t = D := by rw [HSN.out, HD.out, if_neg (HLN.out hxt)]; rfl
        have HN3 := Lib.hid HN2
        clear hr hxt HLN HN2 HSN HD
        rcases r with _ | _
        all_goals
          go_wp2_with fail
          go_roundw
          case rel => exact ⟨k + 1, D, by omega, by omega, rfl, by go_num, HN3, HQ6⟩
          case measure => simp [intOf]; omega
    · obtain rfl : k = ps.length := by omega
      rw [List.take_length] at HD
      go_wp2_with fail
      go_ret
      rw [HD.out]
      exact ⟨rfl, HQ.out⟩
end Go.Proofs.YtmmoenbmgcplkaaGreatDoor
/- What the Sign rows list of package-level variables, and what it gives the walks. -/
set_option linter.unusedVariables false
set_option linter.unusedSimpArgs false
namespace Go.Proofs.YtmmoenbmgcplkaaGreatDoor
open Go Go.RowKit
def laidS : List (String × DataW Unit) := [("math/bits.deBruijn32tab", Rows.laid_math_bits_deBruijn32tab), ("math/bits.deBruijn64tab", Rows.laid_math_bits_deBruijn64tab), ("internal/strconv.uint64pow10", Rows.laid_internal_strconv_uint64pow10), ("unicode/utf8.acceptRanges", Rows.laid_unicode_utf8_acceptRanges), ("errors.errorType", Rows.laid_errors_errorType), ("unicode.asciiFold", Rows.laid_unicode_asciiFold), ("unicode.caseOrbit", Rows.laid_unicode_caseOrbit), ("unicode.CaseRanges", Rows.laid_unicode_CaseRanges), ("unicode/utf8.first", Rows.laid_unicode_utf8_first)]
def plainS : List (String × DataW Unit) := [("math/bits.deBruijn32tab", Rows.laid_math_bits_deBruijn32tab), ("math/bits.deBruijn64tab", Rows.laid_math_bits_deBruijn64tab), ("internal/strconv.uint64pow10", Rows.laid_internal_strconv_uint64pow10), ("unicode/utf8.acceptRanges", Rows.laid_unicode_utf8_acceptRanges), ("unicode.asciiFold", Rows.laid_unicode_asciiFold), ("unicode.caseOrbit", Rows.laid_unicode_caseOrbit), ("unicode.CaseRanges", Rows.laid_unicode_CaseRanges), ("unicode/utf8.first", Rows.laid_unicode_utf8_first)]
set_option maxRecDepth 100000 in
theorem pinned_case : Go.Pinned.caseRanges = Lib.caseData := by kernel_rfl
set_option maxRecDepth 100000 in
theorem pinned_first : Go.Pinned.utf8First = Lib.firstData := by kernel_rfl
theorem accept_data : (Rows.laid_unicode_utf8_acceptRanges : DataW Unit) = Lib.acceptData := by kernel_rfl
theorem laidS_parts {W : World} (h : laidMetH Tryz.prog laidS W) : laidMet Tryz.prog plainS W ∧ handlesMet Tryz.prog [("errors.errorType", Rows.laid_errors_errorType)] W := by
  have e1 : (laidS.filter fun x => x.2.handleName?.isSome) = [("errors.errorType", Rows.laid_errors_errorType)] := by kernel_rfl
  have e2 : (laidS.filter fun x => x.2.handleName?.isNone) = plainS := by kernel_rfl
  unfold laidMetH at h
  rw [e1] at h
  simp only at h
  rw [e2] at h
  exact h
theorem etS : Tryz.prog.globalNamed "errors.errorType" = some 0 := by kernel_rfl
theorem rtS : (Tryz.prog.cutTypes.find? (·.1 == "internal/reflectlite.rtype")).map (·.2) = some 215 := by kernel_rfl
theorem oneRowS : ((List.range Tryz.prog.types.size).filter fun t => Tryz.prog.rowNamed t [101, 114, 114, 111, 114]) = [60] := by kernel_rfl
theorem err_of_laidS {W : World} (h : handlesMet Tryz.prog [("errors.errorType", Rows.laid_errors_errorType)] W) : ErrG W := by
  obtain ⟨name, u, ty, e1, e2, e3, e4, e5⟩ := h _ (List.mem_singleton.2 rfl)
  have en : name = [101, 114, 114, 111, 114] := (Option.some.inj e1).symm
  subst en
  obtain rfl := Option.some.inj (rtS.symm.trans e2)
  have hm : ty ∈ (List.range Tryz.prog.types.size).filter fun t => Tryz.prog.rowNamed t [101, 114, 114, 111, 114] := List.mem_filter.2 ⟨List.mem_range.2 e3, e4⟩
  rw [oneRowS] at hm
  obtain rfl := List.mem_singleton.1 hm
  have hh : typeHandle Tryz.prog 60 = .pointer (some ⟨10, 60, none⟩) := by kernel_rfl
  rw [hh] at e5
  unfold ErrG
  simpa using World.var?_cell etS e5 0
theorem tab_of_laidS {W : World} (h : laidMet Tryz.prog plainS W) : Tab W := by
  have h2 := h.filter (fun x => x.1 == "internal/strconv.uint64pow10")
  have e : plainS.filter (fun x => x.1 == "internal/strconv.uint64pow10") = [("internal/strconv.uint64pow10", Lib.tabData .u64 Lib.pow10Tab)] := by kernel_rfl
  rw [e] at h2
  exact Lib.tabIs_of_head (g := 7) (by kernel_rfl) (t := 273) (by kernel_rfl) Tryz.underlying273 Tryz.underlying146 (by kernel_rfl) (by kernel_rfl) h2
def orbData : DataW Unit := .slice (orbT.map fun x => .agg ([(x.1 : Int), (x.2 : Int)].map fun z => .lit (.int .u16 z))) []
set_option maxRecDepth 100000 in
theorem orb_data : (Rows.laid_unicode_caseOrbit : DataW Unit) = orbData := by kernel_rfl
theorem spot_none {w : World} {b o : Nat} {sp : Option Nat} {v : Value} (h : w.cell? ⟨b, o, sp⟩ = some v) : sp = none := by
  cases sp with
  | none => rfl
  | some x =>
    unfold World.cell? at h
    split at h <;> simp at h
theorem folds_of_laidS {W : World} (h : laidMet Tryz.prog plainS W) : Folds W := by
  refine ⟨?_, ?_⟩
  · have h2 := h.filter (fun x => x.1 == "unicode.asciiFold")
    have e : plainS.filter (fun x => x.1 == "unicode.asciiFold") = [("unicode.asciiFold", Lib.tabData .u16 (afT.map fun x : Nat => (x : Int)))] := by kernel_rfl
    rw [e] at h2
    have ht := Lib.tabIs_of_head (g := 1) (by kernel_rfl) (t := 193) (by kernel_rfl) Tryz.underlying193 Tryz.underlying192 (by kernel_rfl) (by kernel_rfl) h2
    intro x hx
    have hl : (afT.map fun x : Nat => (x : Int)).length = 128 := by kernel_rfl
    have := ht.cell (g := 1) (by kernel_rfl) x (by rw [hl]; exact hx)
    rw [this]
    have hl2 : afT.length = 128 := by kernel_rfl
    simp [List.getD, hl2, hx]
  · have hr : Lib.VarReads Tryz.prog W "unicode.caseOrbit" orbData := orb_data ▸ Lib.laidMet.reads h (.tail _ (.tail _ (.tail _ (.tail _ (.tail _ (.head _))))))
    obtain ⟨g, t, cs, fuel, p, hg, hty, hvar, hd⟩ := hr
    have n1 : Tryz.prog.globalNamed "unicode.caseOrbit" = some 2 := by kernel_rfl
    have y1 : (Tryz.prog.globals[2]?).map (·.type) = some 194 := by kernel_rfl
    obtain rfl := Option.some.inj (n1.symm.trans hg)
    obtain rfl := Option.some.inj (y1.symm.trans hty)
    have c2 : Tryz.prog.cellsOf 196 = 2 := by kernel_rfl
    have c1 : Tryz.prog.cellsOf 192 = 1 := by kernel_rfl
    rcases DataW.trod_slice Tryz.underlying194 hd with ⟨_, hx'⟩ | ⟨a', len, cap, el, rs, m, hcs0, hc0, hx', _, hlc, _, hel, helem, hsp, _⟩
    · cases hx'
    have e0 := congrArg Prod.fst hx'
    simp only [orbData, DataW.slice.injEq] at e0
    obtain ⟨eE, eR⟩ := e0
    have h94 : orbT.length = 94 := by kernel_rfl
    have hlen : len = 94 := by
      have := congrArg List.length eE
      simp [h94] at this
      omega
    subst hlen
    have hrow : ∀ i, i < 94 → ∀ j, j < 2 → W.cell? ((a'.add (i * 2)).add j) = [Value.int .u16 ((orbT.getD i (0, 0)).1 : Nat), .int .u16 ((orbT.getD i (0, 0)).2 : Nat)][j]? := by
      intro i hi j hj
      have h1 := helem i hi
      rw [c2] at h1
      obtain ⟨b, hb⟩ : ∃ b, el[i]? = some b := ⟨el[i]'(by omega), List.getElem?_eq_getElem (by omega)⟩
      rw [hb] at h1
      obtain ⟨ce, hce, hte⟩ := Option.bind_eq_some_iff.1 h1
      have hb1 : b.1 = .agg ([((orbT.getD i (0, 0)).1 : Int), ((orbT.getD i (0, 0)).2 : Int)].map fun z => .lit (.int .u16 z)) := by
        have := congrArg (·[i]?) eE
        simp only [List.getElem?_map, hb, Option.map_some] at this
        rw [List.getElem?_eq_getElem (by rw [h94]; exact hi)] at this
        simp only [Option.map_some, Option.some.injEq] at this
        rw [← this]
        simp [List.getD, h94, hi]
      have hcs := Lib.ints_of_struct (p := b.2) Tryz.underlying196 (fun q f hq => by
        match q, hq with
        | 0, hq => simp at hq; subst hq; exact ⟨Tryz.underlying192, rfl, c1⟩
        | 1, hq => simp at hq; subst hq; exact ⟨Tryz.underlying192, rfl, c1⟩
        | q + 2, hq => simp at hq) (by rw [c2]; rfl) (by rw [← hb1]; exact hte)
      obtain ⟨_, _, hcc⟩ := World.cells?_some hce
      rw [hcc j hj, hcs]
      match j, hj with
      | 0, _ => rfl
      | 1, _ => rfl
    obtain ⟨R, oR, sR⟩ := a'
    obtain rfl : sR = none := by
      have h00 := hrow 0 (by omega) 0 (by omega)
      have : (Addr.add (Addr.add ⟨R, oR, sR⟩ (0 * 2)) 0) = ⟨R, oR, sR⟩ := by simp [Addr.add]
      rw [this] at h00
      exact spot_none h00
    refine ⟨R, oR, cap, ?_, fun i hi => ?_⟩
    · have := World.var?_cell n1 hvar 0
      rw [this, ← Array.getElem?_toList, hc0]
      rfl
    · have k0 := hrow i hi 0 (by omega)
      have k1 := hrow i hi 1 (by omega)
      have ea : ∀ j, (Addr.add (Addr.add ⟨R, oR, none⟩ (i * 2)) j) = ⟨R, oR + i * 2 + j, none⟩ := by
        intro j
        unfold Addr.add
        by_cases h1 : i * 2 = 0
        · rw [if_pos h1]
          by_cases h2 : j = 0
          · rw [if_pos h2]; simp [h1, h2]
          · rw [if_neg h2]; simp [h1]
        · rw [if_neg h1]
          by_cases h2 : j = 0
          · rw [if_pos h2]; simp [h2]
          · rw [if_neg h2]
      rw [ea] at k0 k1
      exact ⟨k0, k1⟩
def renS : Go.Shelf.Ren := ⟨laysX274_ren.f, laysX274_ren.t, fun | 13 => 3 | n => n⟩
theorem s17_of_laid {W : World} (h : laidMetH Tryz.prog laidS W) (hs : W.ShapedOpen Tryz.prog) : S17 W := by
  obtain ⟨hp, hh⟩ := laidS_parts h
  have ha : Lib.VarReads Tryz.prog W "unicode/utf8.acceptRanges" Lib.acceptData := accept_data ▸ Lib.laidMet.reads hp (.tail _ (.tail _ (.tail _ (.head _))))
  have hc : Lib.VarReads Tryz.prog W "unicode.CaseRanges" Lib.caseData := pinned_case ▸ Lib.laidMet.reads hp (.tail _ (.tail _ (.tail _ (.tail _ (.tail _ (.tail _ (.head _)))))))
  have hf : Lib.VarReads Tryz.prog W "unicode/utf8.first" Lib.firstData := pinned_first ▸ Lib.laidMet.reads hp (.tail _ (.tail _ (.tail _ (.tail _ (.tail _ (.tail _ (.tail _ (.head _))))))))
  exact ⟨⟨max_shaped hs,
    caseVar_of_reads (ρ := renS) { laysX274 with } (by kernel_rfl) ⟨by kernel_rfl, by kernel_rfl, by kernel_rfl, by kernel_rfl, by kernel_rfl, by kernel_rfl⟩ hc,
    utf8Tabs_of_reads (ρ := laysX260_ren) laysX260 ⟨by kernel_rfl, by kernel_rfl, by kernel_rfl, by kernel_rfl, by kernel_rfl, by kernel_rfl, by kernel_rfl⟩ hf ha⟩, tab_of_laidS hp, err_of_laidS hh, folds_of_laidS hp⟩
/-- The world that the witness stands in. -/
noncomputable def baseS (os : Os) : World := (World.holding Tryz.prog os ⟨#[], #[], []⟩).setCell ⟨0, 0, none⟩ (.iface 215 (.agg #[.pointer (some ⟨10, 60, none⟩)]))
noncomputable def witS (os : Os) : World := (baseS os).layVars Tryz.prog plainS
theorem witS_os (os : Os) : (witS os).os = os := by
  unfold witS
  rw [World.layVars_os]
  rfl
theorem laidS_met (os : Os) (args : Array Value) : laidMetH Tryz.prog laidS ((witS os).forCall (fun _ _ => 0) ⟨#[], args, []⟩).memory := by
  have e2 : (laidS.filter fun x => x.2.handleName?.isNone) = plainS := by kernel_rfl
  refine laidMetH_of_parts ?_ (by kernel_rfl)
  rw [e2]
  have f1 : (plainS.filter fun x => (plainS.map (·.1)).contains x.1) = plainS := List.filter_eq_self.2 fun x hx => List.contains_iff_mem.2 (List.mem_map.2 ⟨x, hx, rfl⟩)
  have f2 : (plainS.filter fun x => !(plainS.map (·.1)).contains x.1) = [] := List.filter_eq_nil_iff.2 fun x hx => by rw [List.contains_iff_mem.2 (List.mem_map.2 ⟨x, hx, rfl⟩)]; simp
  have h : laidMet Tryz.prog plainS (witS os) := laidMet_layVars (w0 := baseS os) (plainS.map (·.1)) [] (by rw [f1]; rfl) (by rw [f1]; kernel_rfl) (by rw [f1]; kernel_rfl) (by rw [f2]; exact LaidIn.none)
  exact h.of_heap (by simp [World.memory, World.forCall, Input.heap])
end Go.Proofs.YtmmoenbmgcplkaaGreatDoor
/- Plain: what is put in escapes is read again; the document's Target by pieces; its bucket's test, byte by byte. -/
set_option linter.unusedVariables false
set_option linter.unusedSimpArgs false
namespace Go.Proofs.YtmmoenbmgcplkaaGreatDoor
open Go Go.RowKit
theorem esc_facts : ∀ b : UInt8, digV (gB capsL (b.toNat / 16)) = b.toNat / 16 ∧ digV (gB capsL (b.toNat % 16)) = b.toNat % 16 ∧ UInt8.ofNat (b.toNat / 16 * 16 + b.toNat % 16) = b ∧ (∀ sl, freeL sl b = true → b ≠ 37) := by
  have h : ∀ n : Fin 256, digV (gB capsL (n.val.toUInt8.toNat / 16)) = n.val.toUInt8.toNat / 16 ∧ digV (gB capsL (n.val.toUInt8.toNat % 16)) = n.val.toUInt8.toNat % 16 ∧ UInt8.ofNat (n.val.toUInt8.toNat / 16 * 16 + n.val.toUInt8.toNat % 16) = n.val.toUInt8 ∧ (∀ sl, freeL sl n.val.toUInt8 = true → n.val.toUInt8 ≠ 37) := by decide +kernel
  intro b
  have := h ⟨b.toNat, b.toNat_lt⟩
  simp only [UInt8.ofNat_toNat, Nat.toUInt8_eq] at this
  exact this
theorem dec_enc (sl : Bool) (l r : List UInt8) : decR (encL sl l ++ r) = (l ++ (decR r).1, (decR r).2.map (· + (encL sl l).length)) := by
  induction l with
  | nil => rcases h : decR r with ⟨a, _ | b⟩ <;> simp [encL, h]
  | cons b l ih =>
    have e : encL sl (b :: l) = encB sl b ++ encL sl l := by simp [encL]
    obtain ⟨f1, f2, f3, f4⟩ := esc_facts b
    rw [e, List.append_assoc]
    by_cases hf : freeL sl b = true
    · have eb : encB sl b = [b] := by unfold encB; rw [if_pos hf]
      rw [eb, List.singleton_append, decR_plain _ _ (f4 sl hf), ih]
      rcases (decR r).2 with _ | k <;> simp <;> omega
    · have eb : encB sl b = [37, gB capsL (b.toNat / 16), gB capsL (b.toNat % 16)] := by unfold encB escL; rw [if_neg hf]
      have hb := b.toNat_lt
      rw [eb]
      show decR (37 :: gB capsL (b.toNat / 16) :: gB capsL (b.toNat % 16) :: (encL sl l ++ r)) = _
      rw [decR_esc, f1, f2, if_neg (by omega), f3, ih]
      rcases (decR r).2 with _ | k <;> simp <;> omega
theorem dec_enc' (sl : Bool) (l : List UInt8) : decR (encL sl l) = (l, none) := by
  have := dec_enc sl l []
  simpa [decR] using this
/-- The document's walk over a query's pieces. -/
def rPieces : List (List UInt8) → Nat → List PairD → Option Nat × List PairD
  | [], _, acc => (none, acc)
  | p :: r, at_, acc =>
    if p = [] then rPieces r (at_ + 1) acc
    else match (decR (cutB 61 p).1).2 with
      | some k => (some (at_ + k), [])
      | none =>
        if (cutB 61 p).2.2 then
          match (decR (cutB 61 p).2.1).2 with
          | some k => (some (at_ + (cutB 61 p).1.length + 1 + k), [])
          | none => rPieces r (at_ + (p.length + 1)) (acc ++ [((decR (cutB 61 p).1).1, (decR (cutB 61 p).2.1).1)])
        else rPieces r (at_ + (p.length + 1)) (acc ++ [((decR (cutB 61 p).1).1, [])])
theorem stepT_keep (st : TSt) (p : List UInt8) (h : 0 ≤ st.bad) : (stepT st p).bad = st.bad := by
  have hb : ∀ t a, badT t a st.bad = st.bad := fun t a => by
    unfold badT; rcases (decR t).2 with _ | k
    · rfl
    · simp only; rw [if_neg (by omega)]
  unfold stepT
  split
  · rfl
  · split
    · simp only [hb]
    · simp only [hb]
theorem fold_keep (ls : List (List UInt8)) : ∀ st : TSt, 0 ≤ st.bad → (ls.foldl stepT st).bad = st.bad := by
  induction ls with
  | nil => intro st _; rfl
  | cons p r ih => intro st h; rw [List.foldl_cons, ih _ (by rw [stepT_keep st p h]; exact h), stepT_keep st p h]
theorem pieces_fold (ls : List (List UInt8)) : ∀ (at_ : Nat) (acc : List PairD),
    match rPieces ls at_ acc with
    | (some b, _) => (ls.foldl stepT ⟨acc, (at_ : Int), -1⟩).bad = (b : Int)
    | (none, ps) => (ls.foldl stepT ⟨acc, (at_ : Int), -1⟩).bad = -1 ∧ (ls.foldl stepT ⟨acc, (at_ : Int), -1⟩).ps = ps := by
  induction ls with
  | nil => intro at_ acc; simp [rPieces]
  | cons p r ih =>
    intro at_ acc
    unfold rPieces
    rw [List.foldl_cons]
    by_cases hp : p = []
    · rw [if_pos hp]
      have e : stepT ⟨acc, (at_ : Int), -1⟩ p = ⟨acc, ((at_ + 1 : Nat) : Int), -1⟩ := by unfold stepT; rw [if_pos hp]; simp
      rw [e]; exact ih _ _
    · rw [if_neg hp]
      have hc := cutB_len 61 p
      rcases hn : (decR (cutB 61 p).1).2 with _ | k
      · have hon : (decOut (cutB 61 p).1).1 = (decR (cutB 61 p).1).1 := by unfold decOut; rw [hn]
        have hbn : ∀ a, badT (cutB 61 p).1 a (-1) = -1 := fun a => by unfold badT; rw [hn]
        rcases hf : (cutB 61 p).2.2 with _ | _
        · have e : stepT ⟨acc, (at_ : Int), -1⟩ p = ⟨acc ++ [((decR (cutB 61 p).1).1, [])], ((at_ + (p.length + 1) : Nat) : Int), -1⟩ := by
            have hlen : (cutB 61 p).1.length = p.length := by rw [(hc.2 hf).1]
            unfold stepT; rw [if_neg hp, hf]; simp only [Bool.false_eq_true, if_false, hon, hbn, hlen, TSt.mk.injEq, and_true, true_and]; omega
          rw [e]; simp only [Bool.false_eq_true, if_false]; exact ih _ _
        · simp only [if_true]
          have hl := hc.1 hf
          rcases hv : (decR (cutB 61 p).2.1).2 with _ | k2
          · have hov : (decOut (cutB 61 p).2.1).1 = (decR (cutB 61 p).2.1).1 := by unfold decOut; rw [hv]
            have hbv : ∀ a, badT (cutB 61 p).2.1 a (-1) = -1 := fun a => by unfold badT; rw [hv]
            have e : stepT ⟨acc, (at_ : Int), -1⟩ p = ⟨acc ++ [((decR (cutB 61 p).1).1, (decR (cutB 61 p).2.1).1)], ((at_ + (p.length + 1) : Nat) : Int), -1⟩ := by
              unfold stepT; rw [if_neg hp, hf]; simp only [if_true, hon, hov, hbn, hbv, TSt.mk.injEq, and_true, true_and]; omega
            rw [e]; exact ih _ _
          · have hb2 : (stepT ⟨acc, (at_ : Int), -1⟩ p).bad = ((at_ + (cutB 61 p).1.length + 1 + k2 : Nat) : Int) := by
              unfold stepT; rw [if_neg hp, hf]; simp only [if_true, hbn]
              unfold badT; rw [hv]; simp only; rw [if_pos (by omega)]; omega
            simp only
            rw [fold_keep r _ (by rw [hb2]; omega), hb2]
      · have hb1 : (stepT ⟨acc, (at_ : Int), -1⟩ p).bad = ((at_ + k : Nat) : Int) := by
          have h1 : badT (cutB 61 p).1 (at_ : Int) (-1) = ((at_ + k : Nat) : Int) := by unfold badT; rw [hn]; simp only; rw [if_pos (by omega)]; omega
          have h2 : ∀ t a, badT t a ((at_ + k : Nat) : Int) = ((at_ + k : Nat) : Int) := fun t a => by
            unfold badT; rcases (decR t).2 with _ | j
            · rfl
            · simp only; rw [if_neg (by omega)]
          unfold stepT; rw [if_neg hp]
          split
          · simp only [h1, h2]
          · simp only [h1]
        simp only
        rw [fold_keep r _ (by rw [hb1]; omega), hb1]
end Go.Proofs.YtmmoenbmgcplkaaGreatDoor
/- Plain: the document's test of a bucket's name, byte by byte, is the labels'. -/
set_option linter.unusedVariables false
set_option linter.unusedSimpArgs false
namespace Go.Proofs.YtmmoenbmgcplkaaGreatDoor
open Go Go.RowKit
def okCond (pv b : UInt8) : Bool := (chrOk b || b == 46) && !(b == 46 && (pv == 46 || pv == 45)) && !(b == 45 && pv == 46)
def chk : UInt8 → List UInt8 → Bool
  | pv, [] => !(pv == 45 || pv == 46)
  | pv, b :: r => okCond pv b && chk b r
theorem gB_last (u : List UInt8) (b : UInt8) : gB (u ++ [b]) ((u ++ [b]).length - 1) = b := by simp [gB]
theorem labOk_snoc (u : List UInt8) (b : UInt8) (h0 : gB (u ++ [b]) 0 ≠ 45) (ha : (u ++ [b]).all chrOk = true) : labOk (u ++ [b]) = !(b == 45) := by
  unfold labOk labBad
  rw [ha, gB_last]
  have h1 : (u ++ [b]).isEmpty = false := by simp
  have h2 : (gB (u ++ [b]) 0 == 45) = false := by simpa using h0
  rw [h1, h2]; simp
theorem labOk_bad (u h : List UInt8) (b : UInt8) (hb : chrOk b = false) : labOk (u ++ b :: h) = false := by
  unfold labOk; simp [hb]
theorem gB_app0 (u : List UInt8) (b : UInt8) (h : List UInt8) : gB ((u ++ [b]) ++ h) 0 = gB (u ++ [b]) 0 := by
  rcases u with _ | ⟨x, u⟩ <;> simp [gB]
theorem labels_chk (l : List UInt8) : (splitC 46 l).all labOk = chk 46 l ∧
    ∀ (u : List UInt8) (c : UInt8), gB (u ++ [c]) 0 ≠ 45 → (u ++ [c]).all chrOk = true → ∀ h t, splitC 46 l = h :: t → (labOk ((u ++ [c]) ++ h) && t.all labOk) = chk c l := by
  induction l with
  | nil =>
    refine ⟨by decide, fun u c h0 ha h t e => ?_⟩
    have hc : c ≠ 46 := by
      intro e; subst e
      simp only [List.all_append, Bool.and_eq_true] at ha
      have := ha.2; revert this; decide
    simp only [splitC, List.cons.injEq] at e
    obtain ⟨rfl, rfl⟩ := e
    rw [List.append_nil, labOk_snoc u c h0 ha]
    simp [chk, hc]
  | cons b r ih =>
    obtain ⟨ih1, ih2⟩ := ih
    by_cases hb : b = 46
    · subst hb
      have hs : splitC 46 (46 :: r) = [] :: splitC 46 r := by rw [splitC, if_pos rfl]
      rw [hs]
      refine ⟨?_, fun u c h0 ha h t e => ?_⟩
      · simp [labOk, labBad, chk, okCond]
      · simp only [List.cons.injEq] at e
        obtain ⟨rfl, rfl⟩ := e
        have hc : c ≠ 46 := by
          intro e; subst e
          simp only [List.all_append, Bool.and_eq_true] at ha
          have := ha.2; revert this; decide
        rw [List.append_nil, labOk_snoc u c h0 ha, ih1]
        have h46 : chrOk 46 = false := by decide
        rcases hc5 : (c == 45) with _ | _ <;> simp [chk, okCond, hc, hc5, h46]
    · rcases hr : splitC 46 r with _ | ⟨h1, t1⟩
      · exact absurd hr (splitC_ne 46 r)
      · have hs : splitC 46 (b :: r) = (b :: h1) :: t1 := by rw [splitC, if_neg hb, hr]
        rw [hs]
        refine ⟨?_, fun u c h0 ha h t e => ?_⟩
        · rw [List.all_cons]
          rcases hok : chrOk b with _ | _
          · rw [show b :: h1 = [] ++ b :: h1 from rfl, labOk_bad [] h1 b hok]; simp [chk, okCond, hok, hb]
          · by_cases h45 : b = 45
            · subst h45; simp [labOk, labBad, chk, okCond, gB]
            · have := ih2 [] b (by simpa [gB] using h45) (by simp [hok]) h1 t1 hr
              simp only [List.nil_append, List.singleton_append] at this
              rw [this]; simp [chk, okCond, hok, hb, h45]
        · simp only [List.cons.injEq] at e
          obtain ⟨rfl, rfl⟩ := e
          have hc : c ≠ 46 := by
            intro e; subst e
            simp only [List.all_append, Bool.and_eq_true] at ha
            have := ha.2; revert this; decide
          rcases hok : chrOk b with _ | _
          · rw [labOk_bad (u ++ [c]) h1 b hok]; simp [chk, okCond, hok, hb]
          · have := ih2 (u ++ [c]) b (by rw [gB_app0]; exact h0) (by rw [List.all_append, ha]; simp [hok]) h1 t1 hr
            rw [List.append_assoc, List.singleton_append] at this
            rw [this]; simp [chk, okCond, hok, hb, hc]
end Go.Proofs.YtmmoenbmgcplkaaGreatDoor
/- Pairs copied and turned; the order of a query's pairs, plainly. -/
set_option linter.unusedVariables false
set_option linter.unusedSimpArgs false
namespace Go.Proofs.YtmmoenbmgcplkaaGreatDoor
open Go Go.RowKit
def leP (a b : PairD) : Bool := !(ltOf pcmp) b a
theorem leP_trans (a b c : PairD) (h1 : leP a b = true) (h2 : leP b c = true) : leP a c = true := by
  unfold leP at *
  simp only [Bool.not_eq_true'] at *
  exact swo_pair.ntrans c b a h2 h1
theorem leP_total (a b : PairD) : (leP a b || leP b a) = true := by
  unfold leP
  rcases h : ltOf pcmp b a with _ | _
  · rfl
  · rw [Sort.SWO.asymm swo_pair h]; rfl
theorem leP_anti (a b : PairD) (h1 : leP a b = true) (h2 : leP b a = true) : a = b := by
  unfold leP at *
  simp only [Bool.not_eq_true'] at *
  exact pcmp_total a b h2 h1
theorem sortP_perm {l m : List PairD} (h : l.Perm m) : sortP l = sortP m := by
  have e1 : sortP l = l.mergeSort leP := rfl
  have e2 : sortP m = m.mergeSort leP := rfl
  rw [e1, e2]
  refine List.Perm.eq_of_pairwise (le := fun a b => leP a b = true) (fun a b _ _ h1 h2 => leP_anti a b h1 h2) (List.pairwise_mergeSort leP_trans leP_total l) (List.pairwise_mergeSort leP_trans leP_total m) ?_
  exact (List.mergeSort_perm l leP).trans (h.trans (List.mergeSort_perm m leP).symm)
theorem canonL_perm {l m : List PairD} (h : l.Perm m) : canonL l = canonL m := by
  unfold canonL partsL; rw [sortP_perm (h.map encP)]
theorem cellsU_set (ps : List PairD) : ∀ (k : Nat) (p : PairD), k < ps.length → cellsU (ps.set k p) = (cellsU ps).take (k * 2) ++ pairL p ++ (cellsU ps).drop (k * 2 + 2) := by
  induction ps with
  | nil => intro k p h; simp at h
  | cons a r ih =>
    intro k p h
    have e : cellsU (a :: r) = pairL a ++ cellsU r := by simp [cellsU]
    have hl := pairL_len a
    cases k with
    | zero =>
      have e2 : cellsU ((a :: r).set 0 p) = pairL p ++ cellsU r := by simp [cellsU]
      rw [e2, e, Nat.zero_mul, List.take_zero, List.nil_append, Nat.zero_add, List.drop_append, hl]
      simp [pairL]
    | succ k =>
      have e2 : cellsU ((a :: r).set (k + 1) p) = pairL a ++ cellsU (r.set k p) := by simp [cellsU]
      rw [e2, e, ih k p (by simpa using h), List.take_append, List.drop_append, hl]
      have t1 : (pairL a).take ((k + 1) * 2) = pairL a := List.take_of_length_le (by rw [hl]; omega)
      have t2 : (pairL a).drop ((k + 1) * 2 + 2) = [] := List.drop_of_length_le (by rw [hl]; omega)
      rw [t1, t2, show (k + 1) * 2 - 2 = k * 2 by omega, show (k + 1) * 2 + 2 - 2 = k * 2 + 2 by omega]
      simp
theorem OwnU.setU {w0 w : World} {A : Option Addr} {len cap : Nat} {ps : List PairD} (h : OwnU w0 w (.slice A len cap) ps) (k : Nat) (hk : k < len) (p : PairD) : ∃ g, A = some ⟨g, 0, none⟩ ∧ w0.heap.size ≤ g ∧ w.there g (k * 2) (pairL p).toArray.size ∧
    OwnU w0 (w.setCells g (k * 2) (pairL p)) (.slice A len cap) (ps.set k p) ∧ w.grownBy (w.setCells g (k * 2) (pairL p)) (some g) := by
  rcases h.2 with ⟨hv, h0⟩ | ⟨g, cap', cur, hv, hb, hh, hn, hm, hcs, ht⟩
  · cases hv; omega
  · cases hv
    have hl5 : (pairL p).length = 2 := rfl
    have hfit : k * 2 + 2 ≤ cur.size := by rw [hcs]; omega
    have hset := heap_setCells g 37 (0, 0) (pairL p) (k * 2) w cur hh (by rw [hl5]; exact hfit)
    refine ⟨g, rfl, hb, ?_, ⟨by rw [cellsU_len], .inr ⟨g, cap, _, by rw [List.length_set], hb, hset, by rw [List.length_set]; exact hn, hm, ?_, ?_⟩⟩, setCells_gb g _ _ _⟩
    · intro j hj
      have hj5 : j < 2 := by simpa [hl5] using hj
      refine ⟨?_, frozen_of_row w g _ _ _ hh⟩
      rw [cell_of_row _ _ _ _ _ _ hh, Array.getElem?_eq_getElem (by omega)]; rfl
    · simp [hl5]; omega
    · rw [List.length_set, cellsU_set ps k p hk]
      have e1 : (cellsU ps).take (k * 2) = cur.toList.take (k * 2) := by rw [← ht, List.take_take, Nat.min_eq_left (by omega)]
      have e2 : (cellsU ps).drop (k * 2 + 2) = (cur.toList.drop (k * 2 + 2)).take (ps.length * 2 - (k * 2 + 2)) := by rw [← ht, List.drop_take]
      rw [e1, e2]
      have hl1 : (cur.toList.take (k * 2)).length = k * 2 := by rw [List.length_take]; simp; omega
      have ha : (cur.toList.take (k * 2) ++ pairL p).length = k * 2 + 2 := by rw [List.length_append, hl1, hl5]
      rw [List.take_append, ha, List.take_of_length_le (by rw [ha]; omega), hl5]
/-- append(l, from...). -/
theorem wpList_append_us {ops : Array Oper} {rest : List Oper} {o : Oper} {a : Act} {R : Exit → Act → World → Prop} (hgd : o.guard = none) (s x : Operand)
    (ho : o.op = .call { callee := .builtin .append, args := #[s, x], argTypes := #[22, 22] })
    (w0 W : World) (v : Value) (ps qs : List PairD) (hs : a.eval s = v) (hown : OwnU w0 W v ps) (ad : Addr) (m c : Nat) (hm : qs.length = m) (hx : a.eval x = .slice (some ad) m c) (hc : ∀ j u, (cellsU qs)[j]? = some u → W.cell? (ad.add j) = some u) (hq : w0.heap.size ≤ W.heap.size) (hb : (ps.length + m) * 32 ≤ 140737488355328)
    (h : ∀ v' w', OwnU w0 w' v' (ps ++ qs) → W.grownBy w' v.ownBlock → wpList Tryz.prog ops R rest (a.put o.dst v') w') : wpList Tryz.prog ops R (o :: rest) a W := by
  obtain ⟨i, hi, hz, hsz, hby⟩ := info_parts info_pair
  refine wpList_append_own_at (w := W) hgd s x 22 ho w0.heap.size 37 i _ 2 32 Tryz.underlying22 hi hz hsz hby rfl (by decide) v ps.length (cellsU ps) hs hown ad m c (cellsU qs) hx (by rw [cellsU_len, hm]) hc ?_ (by unfold maxLen; omega) hb hq ?_
  · intro u hu
    unfold cellsU at hu
    obtain ⟨p, _, hp⟩ := List.mem_flatMap.1 hu
    exact one_cells p u hp
  · intro v' w' h2 hg _ hb2
    refine h v' w' ?_ hg
    unfold OwnU; rw [cellsU_app, List.length_append, hm]; exact h2
theorem swap_perm (l : List PairD) (i j : Nat) (hi : i < l.length) (hj : j < l.length) : ((l.set i (gU l j)).set j (gU l i)).Perm l := by
  have e1 : gU l i = l[i] := by simp [gU, List.getD, hi]
  have e2 : gU l j = l[j] := by simp [gU, List.getD, hj]
  rw [e1, e2]
  exact List.set_set_perm hi hj
end Go.Proofs.YtmmoenbmgcplkaaGreatDoor
/- UriOrder: the law. -/
set_option linter.unusedVariables false
set_option linter.unusedSimpArgs false
namespace Go.Proofs.YtmmoenbmgcplkaaGreatDoor
open Go Go.RowKit
theorem pairs_cells {w : World} {g off n : Nat} {ps : List PairD} (h : PairsAt w (some ⟨g, off, none⟩) n ps) (k m : Nat) (hk : k + m ≤ n) : ∀ j u, (cellsU ((ps.drop k).take m))[j]? = some u → w.cell? ((⟨g, off + k * 2, none⟩ : Addr).add j) = some u := by
  intro j u hu
  have hn := h.1
  have hlen : ((ps.drop k).take m).length = m := by simp; omega
  have hj : j < m * 2 := by
    have := (List.getElem?_eq_some_iff.1 hu).1
    rwa [cellsU_len, hlen] at this
  obtain ⟨g', off', e, _, hc⟩ := h.2 (by omega)
  cases e
  have hd : j / 2 < ((ps.drop k).take m).length := by rw [hlen]; omega
  have e1 := cellsU_at ((ps.drop k).take m) (j / 2) hd (j % 2) (Nat.mod_lt _ (by omega))
  rw [show j / 2 * 2 + j % 2 = j by omega, hu] at e1
  have e2 : ((ps.drop k).take m)[j / 2] = ps[k + j / 2]'(by omega) := by simp
  rw [e2] at e1
  have := hc (k + j / 2) (by omega) (j % 2) u e1.symm
  rw [add_off]
  rw [show off + k * 2 + j = off + (k + j / 2) * 2 + j % 2 by omega]
  exact this
theorem OwnU.cap {w0 w : World} {A : Option Addr} {n cap : Nat} {l : List PairD} (h : OwnU w0 w (.slice A n cap) l) (hn : n ≠ 0) : cap ≤ 9223372036854775807 := by
  rcases h.2 with ⟨h1, _⟩ | ⟨g, c2, cur, h1, _, _, _, hm, _⟩
  · injection h1 with _ h2 _; omega
  · injection h1 with _ _ h3; subst h3; exact hm
theorem OwnU.el {w0 w : World} {A : Option Addr} {n cap : Nat} {l : List PairD} (h : OwnU w0 w (.slice A n cap) l) {j : Nat} (hj : j < l.length) : ∃ g, A = some ⟨g, 0, none⟩ ∧ w.cell? ⟨g, j * 2, none⟩ = some (.string ⟨(gU l j).1.toArray⟩) ∧ w.cell? ⟨g, j * 2 + 1, none⟩ = some (.string ⟨(gU l j).2.toArray⟩) ∧ w0.heap.size ≤ g ∧ g < w.heap.size := by
  obtain ⟨A', c', e, _, hc⟩ := h.at
  injection e with e1 _ _
  subst e1
  obtain ⟨g, hA, e0, e1⟩ := hc j hj
  have hb := h.block (k := g) (by rw [hA]; rfl)
  have hg : l[j] = gU l j := by simp [gU, List.getD, hj]
  rw [hg] at e0 e1
  exact ⟨g, hA, e0, e1, hb.1, hb.2.1⟩
end Go.Proofs.YtmmoenbmgcplkaaGreatDoor
/- Plain: the document's Decode, Target, Split, Bucket. -/
set_option linter.unusedVariables false
set_option linter.unusedSimpArgs false
namespace Go.Proofs.YtmmoenbmgcplkaaGreatDoor
open Go Go.RowKit
/-- Where the first c stands. -/
def AtC (c : UInt8) (l : List UInt8) (q : Nat) : Prop := q ≤ l.length ∧ (∀ j, j < q → gB l j ≠ c) ∧ (q < l.length → gB l q = c)
theorem AtC.tail {c x : UInt8} {l : List UInt8} {q : Nat} (h : AtC c (x :: l) (q + 1)) : AtC c l q := by
  obtain ⟨h1, h2, h3⟩ := h
  refine ⟨by simp at h1; omega, fun j hj => ?_, fun hq => ?_⟩
  · have := h2 (j + 1) (by omega); simpa [gB] using this
  · have := h3 (by simp; omega); simpa [gB] using this
theorem cutB_at {c : UInt8} (l : List UInt8) : ∀ {q : Nat}, AtC c l q → cutB c l = (l.take q, l.drop (q + 1), decide (q < l.length)) := by
  induction l with
  | nil => intro q h; have := h.1; simp at this; subst this; simp [cutB]
  | cons x r ih =>
    intro q h
    rcases q with _ | q
    · have := h.2.2 (by simp)
      have hx : x = c := by simpa [gB] using this
      simp [cutB, hx]
    · have hx : x ≠ c := by have := h.2.1 0 (by omega); simpa [gB] using this
      have := ih h.tail
      unfold cutB
      rw [if_neg hx, this]
      simp
theorem splitC_at {c : UInt8} (l : List UInt8) : ∀ {q : Nat}, AtC c l q → splitC c l = l.take q :: (if q < l.length then splitC c (l.drop (q + 1)) else []) := by
  induction l with
  | nil => intro q h; have := h.1; simp at this; subst this; simp [splitC]
  | cons x r ih =>
    intro q h
    rcases q with _ | q
    · have := h.2.2 (by simp)
      have hx : x = c := by simpa [gB] using this
      simp [splitC, hx]
    · have hx : x ≠ c := by have := h.2.1 0 (by omega); simpa [gB] using this
      have := ih h.tail
      rw [splitC, if_neg hx, this]
      simp only [List.take_succ_cons, List.drop_succ_cons, List.length_cons, Nat.add_lt_add_iff_right]
/-- What is left of the pieces at a place. -/
def remT (s : List UInt8) (at_ : Nat) (out : List PairD) : Option Nat × List PairD := if at_ ≤ s.length then rPieces (splitC 38 (s.drop at_)) at_ out else (none, out)
theorem gB_drop (l : List UInt8) (a j : Nat) : gB (l.drop a) j = gB l (a + j) := by simp [gB]
theorem atC_sub {c : UInt8} {s : List UInt8} {a e : Nat} (ha : a ≤ e) (he : e ≤ s.length) (h1 : ∀ j, a ≤ j → j < e → gB s j ≠ c) (h2 : e < s.length → gB s e = c) : AtC c (s.drop a) (e - a) := by
  refine ⟨by simp; omega, fun j hj => ?_, fun hq => ?_⟩
  · rw [gB_drop]; exact h1 _ (by omega) (by omega)
  · rw [gB_drop, show a + (e - a) = e by omega]; exact h2 (by simp at hq; omega)
theorem rem_split {s : List UInt8} {a e : Nat} (ha : a ≤ e) (he : e ≤ s.length) (h1 : ∀ j, a ≤ j → j < e → gB s j ≠ 38) (h2 : e < s.length → gB s e = 38) : splitC 38 (s.drop a) = sub s a e :: (if e < s.length then splitC 38 (s.drop (e + 1)) else []) := by
  rw [splitC_at _ (atC_sub ha he h1 h2), List.drop_drop]
  rw [show a + (e - a + 1) = e + 1 by omega]
  have e1 : (s.drop a).take (e - a) = sub s a e := by unfold sub; rw [List.drop_take]
  rw [e1]
  have e2 : (e - a < (s.drop a).length) = (e < s.length) := by simp; omega
  simp only [e2]
theorem rem_rest {s : List UInt8} {e : Nat} (he : e ≤ s.length) (out : List PairD) : rPieces (if e < s.length then splitC 38 (s.drop (e + 1)) else []) (e + 1) out = remT s (e + 1) out := by
  unfold remT
  by_cases h : e < s.length
  · rw [if_pos h, if_pos (by omega)]
  · rw [if_neg h, if_neg (by omega)]; rfl
theorem rem_empty {s : List UInt8} {a : Nat} {out : List PairD} (he : a ≤ s.length) (h2 : a < s.length → gB s a = 38) : remT s a out = remT s (a + 1) out := by
  have h := rem_split (Nat.le_refl a) he (fun j h1 h2 => by omega) h2
  have h0 : sub s a a = [] := by unfold sub; simp
  rw [h0] at h
  conv => lhs; unfold remT
  rw [if_pos he, h, rPieces, if_pos rfl, rem_rest he]
theorem sub_cut {s : List UInt8} {a k e : Nat} (ha : a ≤ k) (hk : k ≤ e) (he : e ≤ s.length) (h1 : ∀ j, a ≤ j → j < k → gB s j ≠ 61) (h2 : k < e → gB s k = 61) : cutB 61 (sub s a e) = (sub s a k, sub s (k + 1) e, decide (k < e)) := by
  have hs : sub s a e = (s.take e).drop a := rfl
  have ht : ∀ j, j < e → gB (s.take e) j = gB s j := fun j hj => by simp [gB, List.getD, List.getElem?_take, hj]
  have hA : AtC 61 ((s.take e).drop a) (k - a) := atC_sub ha (by simp; omega) (fun j h3 h4 => by rw [ht j (by omega)]; exact h1 j h3 h4) (fun hq => by simp at hq; rw [ht k (by omega)]; exact h2 (by omega))
  rw [hs, cutB_at _ hA]
  have e1 : ((s.take e).drop a).take (k - a) = sub s a k := by unfold sub; rw [← List.drop_take, List.take_take]; congr 2; omega
  have e2 : ((s.take e).drop a).drop (k - a + 1) = sub s (k + 1) e := by unfold sub; rw [List.drop_drop]; congr 1; omega
  have e3 : (k - a < ((s.take e).drop a).length) = (k < e) := by simp; omega
  simp only [e1, e2, e3]
theorem sub_ne {s : List UInt8} {a e : Nat} (h : a < e) (he : e ≤ s.length) : sub s a e ≠ [] := by
  intro h0
  have := length_sub s a e
  rw [h0, List.length_nil] at this; omega
theorem rem_piece {s : List UInt8} {a k e : Nat} {out : List PairD} (hae : a < e) (ha : a ≤ k) (hk : k ≤ e) (he : e ≤ s.length) (h1 : ∀ j, a ≤ j → j < e → gB s j ≠ 38) (h2 : e < s.length → gB s e = 38)
    (h3 : ∀ j, a ≤ j → j < k → gB s j ≠ 61) (h4 : k < e → gB s k = 61) :
    remT s a out = match (decR (sub s a k)).2 with
      | some b => (some (a + b), [])
      | none => if k < e then (match (decR (sub s (k + 1) e)).2 with
          | some b => (some (k + 1 + b), [])
          | none => remT s (e + 1) (out ++ [((decR (sub s a k)).1, (decR (sub s (k + 1) e)).1)]))
        else remT s (e + 1) (out ++ [((decR (sub s a k)).1, [])]) := by
  have hs := rem_split (Nat.le_of_lt hae) he h1 h2
  have hl : a + ((sub s a e).length + 1) = e + 1 := by rw [length_sub]; omega
  have hl2 : a + (sub s a k).length + 1 = k + 1 := by rw [length_sub]; omega
  conv => lhs; unfold remT
  rw [if_pos (by omega), hs, rPieces, if_neg (sub_ne hae he), sub_cut ha hk he h3 h4]
  simp only [hl, hl2, rem_rest he, decide_eq_true_eq]
  all_goals
    rcases (decR (sub s a k)).2 with _ | b
    · simp only
      by_cases hke : k < e
      · rw [if_pos hke, if_pos hke]
        rcases (decR (sub s (k + 1) e)).2 with _ | b <;> rfl
      · rw [if_neg hke, if_neg hke]
    · rfl
theorem rtgt_path {s : List UInt8} {q k : Nat} (h0 : s.head? = some 47) (hb : s.findIdx? badC = none) (hq : AtC 63 s q) (hk : (decR (s.take q)).2 = some k) : tgtL s = ([], [], 52, (k : Int)) := by
  unfold tgtL
  rw [if_pos h0, hb]
  have hc := cutB_at s hq
  have e : (runT s).bad = (k : Int) := by
    unfold runT startT
    rw [hc]
    have : badT (s.take q) 0 (-1) = (k : Int) := by unfold badT; rw [hk]; simp
    simp only [this]
    rw [fold_keep _ _ (by show (0 : Int) ≤ (k : Int); omega)]
  simp only [e]
  rw [if_pos (by omega)]
theorem rtgt_rest {s : List UInt8} {q : Nat} (h0 : s.head? = some 47) (hb : s.findIdx? badC = none) (hq : AtC 63 s q) (hk : (decR (s.take q)).2 = none) :
    tgtL s = match remT s (q + 1) [] with | (some b, _) => ([], [], 52, (b : Int)) | (none, ps) => ((decR (s.take q)).1, ps, 0, 0) := by
  unfold tgtL
  rw [if_pos h0, hb]
  have hc := cutB_at s hq
  have hd : (decOut (s.take q)).1 = (decR (s.take q)).1 := by unfold decOut; rw [hk]
  have hbt : badT (s.take q) 0 (-1) = -1 := by unfold badT; rw [hk]
  have hl : (((s.take q).length : Int) + 1) = ((q + 1 : Nat) : Int) := by have := hq.1; simp; omega
  have hr : runT s = (splitC 38 (s.drop (q + 1))).foldl stepT ⟨[], ((q + 1 : Nat) : Int), -1⟩ := by
    unfold runT startT; rw [hc]; simp only [hbt, hl]
  have hrem : remT s (q + 1) [] = rPieces (splitC 38 (s.drop (q + 1))) (q + 1) [] := by
    unfold remT
    by_cases h : q + 1 ≤ s.length
    · rw [if_pos h]
    · rw [if_neg h, List.drop_of_length_le (by omega)]; simp [splitC, rPieces]
  have hp := pieces_fold (splitC 38 (s.drop (q + 1))) (q + 1) []
  rw [← hr, ← hrem] at hp
  rw [hc]
  simp only [hd]
  rcases hx : remT s (q + 1) [] with ⟨_ | b, ps⟩
  · rw [hx] at hp; simp only at hp; obtain ⟨hp1, hp2⟩ := hp; simp only [hp1, hp2]; rw [if_neg (by omega)]
  · rw [hx] at hp; simp only at hp; simp only [hp]; rw [if_pos (by omega)]
end Go.Proofs.YtmmoenbmgcplkaaGreatDoor
