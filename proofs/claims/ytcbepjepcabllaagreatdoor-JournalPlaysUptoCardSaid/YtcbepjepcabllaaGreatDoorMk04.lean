/- Texts of this proof, laid into one: JdC, JdD, JdE, Strs, FrD, FrE. -/
import Derived.Test.YtcbepjepcabllaaGreatDoorMk03
import Derived.Deep.RegionHeld3
import Derived.Test.YtcbepjepcabllaaGreatDoorShelf
import Derived.Deep.OwnRows
import Derived.Outline
/- The disk's Write. -/
set_option linter.unusedVariables false
set_option linter.unusedSimpArgs false
namespace Go.Proofs.YtcbepjepcabllaaGreatDoor
open Go Go.RowKit
/-- The pending writes laid anew. -/
theorem DAt.put {w0 W w' : World} {bd bp gh : Nat} {d : DskS} (h : DAt w0 W bd bp gh d) {wv : Value} (hc : W.cell? ⟨bd, 2, none⟩ = some wv) (hg : W.grownBy w' wv.ownBlock) {v' : Value} {l : List (Nat × List UInt8)} (ho : OwnW w0 w' v' l)
    (hl : ∀ p ∈ l, p.1 < d.n ∧ p.2.length = 64) : DAt w0 (w'.setCell ⟨bd, 2, none⟩ v') bd bp gh { d with wait := l } ∧ K w0 [] W (w'.setCell ⟨bd, 2, none⟩ v') := by
  obtain ⟨wv2, life, h1, h2⟩ := h.box
  have e : wv2 = wv := by
    rw [cell_of_row _ _ _ _ _ _ h1] at hc
    injection hc
  subst e
  obtain ⟨acts, h3, h4⟩ := h.pow
  have keep : ∀ {k : Nat} {cs : Array Value} {t : TypeId} {fz : Nat × Nat}, W.heap[k]? = some (.cells cs t fz) → t ≠ 68 → w'.heap[k]? = some (.cells cs t fz) := fun {k cs t fz} hk hd => by
    rw [hg.block k (lt_of_heap hk) (fun e => by
      obtain ⟨_, _, cur, fz2, hh⟩ := h2.block e.symm
      rw [hk] at hh; injection hh with hh; injection hh with _ e2 _; exact hd e2)]
    exact hk
  have b1 := keep h1 (by decide)
  have b3 := keep h3 (by decide)
  have b4 := keep h.mem (by decide)
  have other : ∀ {k : Nat} {cs : Array Value} {t : TypeId} {fz : Nat × Nat}, w'.heap[k]? = some (.cells cs t fz) → t ≠ 65 → (w'.setCell ⟨bd, 2, none⟩ v').heap[k]? = some (.cells cs t fz) := fun {k cs t fz} hk hd => by
    rw [heap_setCell_other w' ⟨bd, 2, none⟩ k v' (fun e => by subst e; rw [b1] at hk; injection hk with hk; injection hk with _ e2 _; exact hd e2.symm)]; exact hk
  refine ⟨⟨⟨v', life, ?_, ?_⟩, ⟨acts, other b3 (by decide), h4⟩, other b4 (by decide), h.nd, h.np, h.nh, ⟨h.ok.len, h.ok.most, h.ok.fuse, hl⟩⟩, ?_⟩
  · rw [heap_setCell_any w' bd 2 _ _ _ _ b1]; rfl
  · refine ho.g (gb_setCell w' bd 2 v') (fun k hk e => ?_)
    injection e with e; subst e
    obtain ⟨_, _, cur, fz, hh⟩ := ho.block hk
    rw [b1] at hh
    injection hh with hh; injection hh with _ e2 _; revert e2; decide
  · refine K.trans (b := w') ?_ (K.gb (gb_setCell w' bd 2 v') h.nd (.inr (by rw [elemT_of b1]; decide)))
    refine ⟨hg.os, hg.tape, hg.output, hg.size, fun k hk _ hd => hg.block k hk (fun e => ?_)⟩
    obtain ⟨h5, _, cur, fz, hh⟩ := h2.block e.symm
    rcases hd with hd | hd
    · omega
    · rw [elemT_of hh] at hd; revert hd; decide
/-- What a write leaves, and its error. -/
def writeC (d : DskS) (i : Int) (s : List UInt8) : Int := if readyC d i ≠ 0 then readyC d i else if s.length ≠ 64 then 1 else if d.fuse = 0 then 10 else 0
def writeD (d : DskS) (i : Int) (s : List UInt8) : DskS := if readyC d i ≠ 0 ∨ s.length ≠ 64 then d else if d.fuse = 0 then actD d else { actD d with wait := d.wait ++ [(i.toNat, s)] }
theorem ready_lt {d : DskS} {i : Int} (h : readyC d i = 0) : 0 ≤ i ∧ i < (d.n : Int) := by
  unfold readyC at h
  split at h
  · cases h
  · split at h
    · cases h
    · split at h
      · cases h
      · omega
theorem actD_same (d : DskS) : (actD d).has = d.has ∧ (actD d).wait = d.wait ∧ (actD d).dead = d.dead := by unfold actD; split <;> exact ⟨rfl, rfl, rfl⟩
set_option maxRecDepth 100000 in
set_option maxHeartbeats 2000000 in
theorem Write_any {w0 w : World} {bd bp gh : Nat} {d : DskS} (i : Int) (s : List UInt8) (h : DAt w0 w bd bp gh d) (hs : s.length ≤ 140737488355328) (hw : d.wait.length ≤ 1000000) (h0 : w0.heap.size ≤ w.heap.size) :
    Calls Tryz.prog 8 #[.pointer (some ⟨bd, 0, none⟩), .int .i64 i, .string ⟨s.toArray⟩] w fun e w' => (∃ v, e = .returned v ∧ ErrIs w' v (writeC d i s) 0) ∧ DAt w0 w' bd bp gh (writeD d i s) ∧ K w0 [] w w' := by
  have HD := Lib.hid h
  have HF := Lib.hid dfault_any
  have HR := Lib.hid (ready_any i h)
  have HLT := Lib.hid (ready_lt (d := d) (i := i))
  obtain ⟨rc, hrc⟩ : ∃ rc, readyC d i = rc := ⟨_, rfl⟩
  obtain ⟨C, hC⟩ : ∃ C, writeC d i s = C := ⟨_, rfl⟩
  obtain ⟨D, hD⟩ : ∃ C, writeD d i s = C := ⟨_, rfl⟩
  have HC := Lib.hid hC
  have HW := Lib.hid hD
  rw [hC, hD]
  unfold writeC at HC
  unfold writeD at HW
  rw [hrc] at HR HLT HC HW
  clear h hrc hC hD
  go_enter Tryz.func8, Tryz.ntmps8
  go_wp2_with fail
  refine HR.out.mono ?_
  rintro e w1 ⟨⟨v1, rfl, hv1⟩, hq1⟩
  have HD1 := Lib.hid (HD.out.q hq1)
  rcases hv1 with ⟨hc, rfl⟩ | ⟨hc, b, rfl, hf⟩
  · subst hc
    rw [if_neg (by simp)] at HC
    obtain ⟨k, rfl⟩ : ∃ k : Nat, i = (k : Int) := ⟨i.toNat, by have := HLT.out rfl; omega⟩
    have HKN : Hid (k < d.n) := Lib.hid (by have := HLT.out rfl; omega)
    rw [Int.toNat_natCast] at HW
    by_cases hl : s.length = 64
    · have g1 : ((s.length : Int) != 64) = false := by simp; omega
      have c0 := HD1.out.bp_cell
      rw [if_neg (by simpa using hl)] at HC
      rw [if_neg (by simpa using hl)] at HW
      go_wp2_with fail
      refine (act_any HD1.out).mono ?_
      rintro e w2 ⟨rfl, hd2, hk2⟩
      have HD2 := Lib.hid hd2
      have HK2 := Lib.hid ((K.q (w0 := w0) (S := []) hq1).trans hk2)
      clear hd2 hk2 hq1 c0
      by_cases hz : d.fuse = 0
      · rw [if_pos hz] at HC HW
        rw [show decide (d.fuse ≠ 0) = false by simpa using hz]
        go_wp2_with fail
        refine (HF.out 10 _ (by decide)).mono ?_
        rintro e w3 ⟨⟨v, rfl, hv⟩, hq⟩
        have HD3 := Lib.hid (HD2.out.q hq)
        have HK3 := Lib.hid (HK2.out.trans (K.q hq))
        go_wp2_with fail
        go_ret
        exact ⟨⟨v, rfl, by rw [← HC.out]; exact hv⟩, by rw [← HW.out]; exact HD3.out, HK3.out⟩
      · rw [if_neg hz] at HC HW
        rw [show decide (d.fuse ≠ 0) = true by simpa using hz]
        go_upto_region 8 with (fail)
        have h02 : w0.heap.size ≤ w2.heap.size := Nat.le_trans h0 HK2.out.size
        obtain ⟨wv, life, hb1, hb2⟩ := HD2.out.box
        have c2 : w2.cell? ⟨bd, 2, none⟩ = some wv := by rw [cell_of_row _ _ _ _ _ _ hb1]; rfl
        have kc2 : ∀ m : QW w2, m.val.cell? ⟨bd, 2, none⟩ = some wv := fun m => m.cell c2
        rw [(actD_same d).2.1] at hb2
        have HB2 := Lib.hid hb2
        clear hb1 hb2
        refine wp_region_noPanic ?_
        refine wp_fin [0] [([1, 2, 3, 4, 5, 6], [7, 8, 9])] [10, 11, 12, 13] (by kernel_rfl) (by kernel_rfl) (fun _ _ _ _ _ h => h) ?_
        simp only [wpFin, wpListK, List.map_cons, List.map_nil, Array.getD_eq_getD_getElem?, List.getElem?_toArray, List.getElem?_cons_succ, List.getElem?_cons_zero, Option.getD_some]
        (repeat (go_big_quiet_step (fail)))
        refine wpQuiet_nil ?_
        (repeat (go_big_quiet_step (fail)))
        refine wpQuiet_nil ?_
        obtain ⟨Wd, hWd⟩ : ∃ W, w2.drew = W := ⟨_, rfl⟩
        have hqd : Q w2 Wd := by rw [← hWd]; exact (Q.refl w2).drew
        rw [hWd]
        clear hWd kc2
        intro K hK
        go_wp2_with fail
        refine (Clone_any s _ hs).mono ?_
        rintro e w3 ⟨rfl, hq3⟩
        have hq3 := hqd.trans hq3
        clear hqd
        go_wp2_with fail
        refine hK.out _ _ ⟨⟨w3, hq3⟩, rfl⟩ ?_
        clear hK K
        intro K hK
        go_wp2_with fail
        refine hK.out _ _ ⟨⟨w3, hq3⟩, rfl⟩ ?_
        clear hK K
        intro K hK
        go_wp2_with fail
        refine hK.out _ _ ⟨⟨_, hq3.alloc _⟩, rfl⟩ ?_
        clear hK K
        have HD3 := Lib.hid (HD2.out.q hq3)
        have HO3 := Lib.hid (HB2.out.q hq3)
        obtain ⟨wv4, life4, hb4, hb5⟩ := HD3.out.box
        have hc3 : w3.cell? ⟨bd, 2, none⟩ = some wv4 := by rw [cell_of_row _ _ _ _ _ _ hb4]; rfl
        have e4 : wv4 = wv := by have := hq3.cell c2; rw [hc3] at this; injection this
        subst e4
        have HK3 := Lib.hid (HK2.out.trans (K.q hq3))
        have h03 : w0.heap.size ≤ w3.heap.size := Nat.le_trans h02 hq3.size
        clear hq3 c2 h02
        refine wpList_append_w rfl (.tmp 29) (.tmp 34) rfl w0 w3 wv4 d.wait (k, s) (by rfl) HO3.out (by rfl) h03 (by omega) ?_
        intro v' w' ho hg
        obtain ⟨A5, n5, c5, rfl⟩ : ∃ A5 n5 c5, v' = Value.slice A5 n5 c5 := by obtain ⟨A5, c5, hv, _⟩ := ho.at; exact ⟨A5, _, c5, hv⟩
        have hb6 : w'.heap[bd]? = some (.cells #[.pointer (some ⟨bp, 0, none⟩), .slice (some ⟨gh, 0, none⟩) (actD d).has.length (actD d).has.length, wv4, .bool (actD d).dead, .int .i64 life4] 65 (0, 0)) := by
          rw [hg.block bd (lt_of_heap hb4) (fun e => by
            obtain ⟨_, _, cur, fz, hh⟩ := hb5.block e.symm
            rw [hb4] at hh; injection hh with hh; injection hh with _ e2 _; revert e2; decide)]
          exact hb4
        have c6 : w'.cell? ⟨bd, 2, none⟩ = some wv4 := by rw [cell_of_row _ _ _ _ _ _ hb6]; rfl
        have f6 := frozen_of_row w' bd 2 _ _ hb6
        have hfin := HD3.out.put hc3 hg ho (fun p hp => by
          have hn : (actD d).n = d.n := by unfold DskS.n; rw [(actD_same d).1]
          rw [hn]
          rcases List.mem_append.1 hp with hp | hp
          · have := HD2.out.ok.wait p (by rw [(actD_same d).2.1]; exact hp)
            rwa [hn] at this
          · rw [List.mem_singleton.1 hp]; exact ⟨HKN.out, hl⟩)
        have HFIN := Lib.hid hfin
        clear hb4 hb5 hb6 hc3 hg ho hfin
        go_wp2_with fail
        refine NoPanic.normal ?_
        go_wp2_with fail
        go_ret
        exact ⟨⟨.nilIface, rfl, by rw [← HC.out]; exact .inl ⟨rfl, rfl⟩⟩, by rw [← HW.out]; exact HFIN.out.1, HK3.out.trans HFIN.out.2⟩
    · have g1 : ((s.length : Int) != 64) = true := by simp; omega
      rw [if_pos hl] at HC
      rw [if_pos (.inr hl)] at HW
      go_wp2_with fail
      refine (HF.out 1 _ (by decide)).mono ?_
      rintro e w3 ⟨⟨v, rfl, hv⟩, hq⟩
      have HD3 := Lib.hid (HD1.out.q hq)
      go_wp2_with fail
      go_ret
      exact ⟨⟨v, rfl, by rw [← HC.out]; exact hv⟩, by rw [← HW.out]; exact HD3.out, K.q (hq1.trans hq)⟩
  · rw [if_pos hc] at HC
    rw [if_pos (.inl hc)] at HW
    go_wp2_with fail
    go_ret
    exact ⟨⟨_, rfl, by rw [← HC.out]; exact .inr ⟨hc, b, rfl, hf⟩⟩, by rw [← HW.out]; exact HD1.out, K.q hq1⟩
end Go.Proofs.YtcbepjepcabllaaGreatDoor
/- The disk's sector, Flush, Read. -/
set_option linter.unusedVariables false
set_option linter.unusedSimpArgs false
namespace Go.Proofs.YtcbepjepcabllaaGreatDoor
open Go Go.RowKit
theorem sector_any {w0 w : World} {bd bp gh : Nat} {d : DskS} (k : Nat) (h : DAt w0 w bd bp gh d) (hk : k < d.n) :
    Calls Tryz.prog 29 #[.pointer (some ⟨bd, 0, none⟩), .int .i64 (k : Int)] w fun e w' => e = .returned (.slice (some ⟨gh, k * 64, none⟩) 64 (d.has.length - k * 64)) ∧ w = w' := by
  have c1 := h.has_cell
  have h1 := h.ok.len
  have h2 := h.ok.most
  obtain ⟨n, hn⟩ : ∃ n, d.has.length = n := ⟨_, rfl⟩
  rw [hn] at c1 h1 ⊢
  have a1 : k * 64 + 64 ≤ n := by omega
  have a2 : n ≤ 524288 := by omega
  have a3 : (k : Int) * 64 ≤ ((k : Int) + 1) * 64 := by omega
  have a4 : ((k : Int) + 1) * 64 ≤ (n : Int) := by omega
  have e1 : (((k : Int) + 1) * 64 - (k : Int) * 64).toNat = 64 := by omega
  have e2 : ((k : Int) * 64).toNat = k * 64 := by omega
  clear h h1 h2 hn hk
  go_enter Tryz.func29, Tryz.ntmps29
  go_wp2_with fail
  rw [show (k + 1) * 64 - k * 64 = 64 by omega]
  go_ret
  exact ⟨rfl, rfl⟩
/-- A sector laid onto an image; what a disk reads as, its pending writes among it. -/
def putS (im : List UInt8) (k : Nat) (s : List UInt8) : List UInt8 := im.take (k * 64) ++ s ++ im.drop (k * 64 + s.length)
def curL (im : List UInt8) (l : List (Nat × List UInt8)) : List UInt8 := l.foldl (fun im p => putS im p.1 p.2) im
def DskS.cur (d : DskS) : List UInt8 := curL d.has d.wait
theorem putS_len {im : List UInt8} {k : Nat} {s : List UInt8} (h : k * 64 + s.length ≤ im.length) : (putS im k s).length = im.length := by
  simp only [putS, List.length_append, List.length_take, List.length_drop]; omega
theorem curL_len {n : Nat} (l : List (Nat × List UInt8)) : ∀ (im : List UInt8), im.length = 64 * n → (∀ p ∈ l, p.1 < n ∧ p.2.length = 64) → (curL im l).length = im.length := by
  induction l with
  | nil => intro im _ _; rfl
  | cons p r ih =>
    intro im h hl
    have hp := hl p (by simp)
    have h1 : (putS im p.1 p.2).length = im.length := putS_len (by omega)
    have := ih (putS im p.1 p.2) (by omega) (fun q hq => hl q (by simp [hq]))
    simpa [curL, h1] using this
/-- The disk's bytes written anew. -/
theorem DAt.fill {w0 w : World} {bd bp gh : Nat} {d : DskS} (h : DAt w0 w bd bp gh d) (b : List UInt8) (hb : b.length = d.has.length) : DAt w0 (w.setRow gh (arrB b)) bd bp gh { d with has := b } ∧ K w0 [] w (w.setRow gh (arrB b)) := by
  obtain ⟨wv, life, h1, h2⟩ := h.box
  obtain ⟨acts, h3, h4⟩ := h.pow
  have hm := h.mem
  have keep : ∀ {k : Nat} {cs : Array Value} {t : TypeId} {fz : Nat × Nat}, w.heap[k]? = some (.cells cs t fz) → t ≠ 5 → (w.setRow gh (arrB b)).heap[k]? = some (.cells cs t fz) := fun {k cs t fz} hk hd => by
    rw [setRow_other _ _ k _ (fun e => by subst e; rw [hm] at hk; injection hk with hk; injection hk with _ e2 _; exact hd e2.symm)]; exact hk
  refine ⟨⟨⟨wv, life, ?_, h2.g (gb_setRow w gh _) (fun k hk e => ?_)⟩, ⟨acts, keep h3 (by decide), h4⟩, setRow_heap w _ _ _ _ _ hm, h.nd, h.np, h.nh, ?_⟩, K.gb (gb_setRow w gh _) h.nh (.inr (by rw [elemT_of hm]; decide))⟩
  · rw [hb]; exact keep h1 (by decide)
  · injection e with e; subst e
    obtain ⟨_, _, cur, fz, hh⟩ := h2.block hk
    rw [hm] at hh; injection hh with hh; injection hh with _ e2 _; revert e2; decide
  · have hn : DskS.n { d with has := b } = d.n := by unfold DskS.n; rw [hb]
    exact ⟨by rw [hn]; rw [hb]; exact h.ok.len, by rw [hn]; exact h.ok.most, h.ok.fuse, by rw [hn]; exact h.ok.wait⟩
theorem DAt.ne {w0 w : World} {bd bp gh : Nat} {d : DskS} (h : DAt w0 w bd bp gh d) : bd ≠ gh := fun e => by
  obtain ⟨wv, life, h1, h2⟩ := h.box
  have hm := h.mem
  subst e
  rw [h1] at hm; injection hm with hm; injection hm with _ e2 _; revert e2; decide
/-- The pending writes, by the slice that the disk's block holds. -/
theorem DAt.late {w0 w : World} {bd bp gh : Nat} {d : DskS} (h : DAt w0 w bd bp gh d) {A : Option Addr} {n cp : Nat} (hc : w.cell? ⟨bd, 2, none⟩ = some (.slice A n cp)) :
    ∀ j (hj : j < d.wait.length), ∃ g, A = some ⟨g, 0, none⟩ ∧ w.cell? ⟨g, j * 2, none⟩ = some (.int .i64 ((d.wait[j].1 : Nat) : Int)) ∧ w.cell? ⟨g, j * 2 + 1, none⟩ = some (.string ⟨d.wait[j].2.toArray⟩) := by
  obtain ⟨wv, life, h1, h2⟩ := h.box
  obtain ⟨A', cp', hv, _, hat⟩ := h2.at
  subst hv
  have : w.cell? ⟨bd, 2, none⟩ = some (.slice A' d.wait.length cp') := by rw [cell_of_row _ _ _ _ _ _ h1]; rfl
  rw [hc] at this
  injection this with e
  injection e with e1 e2 e3
  subst e1
  exact hat
theorem lateL_one (p : Nat × List UInt8) : (lateL p).toArray.all (·.oneCell') = true := by rw [List.all_toArray]; rfl
theorem curL_snoc (im : List UInt8) (l : List (Nat × List UInt8)) (k : Nat) (hk : k < l.length) : curL im (l.take (k + 1)) = putS (curL im (l.take k)) l[k].1 l[k].2 := by
  unfold curL
  rw [List.take_succ_eq_append_getElem hk, List.foldl_append]; rfl
/-- A pending write in a box. -/
def LateAt (w : World) (b : Nat) (p : Nat × List UInt8) : Prop := w.heap[b]? = some (.cells (lateL p).toArray 68 (0, 0))
theorem LateAt.q {w w' : World} {b : Nat} {p : Nat × List UInt8} (h : LateAt w b p) (hq : Q w w') : LateAt w' b p := hq.block h
theorem LateAt.make (w : World) (p : Nat × List UInt8) : LateAt ((w.alloc (.cells (lateL (0, [])).toArray 68)).setRow w.heap.size (lateL p).toArray) w.heap.size p ∧ Q w ((w.alloc (.cells (lateL (0, [])).toArray 68)).setRow w.heap.size (lateL p).toArray) :=
  ⟨setRow_heap _ _ _ _ _ _ (MapKept.heap_alloc w _).1, Q.setRow ((Q.refl _).alloc _) (Nat.le_refl _) _⟩
theorem LateAt.c0 {w : World} {b : Nat} {p : Nat × List UInt8} (h : LateAt w b p) : w.cell? ⟨b, 0, none⟩ = some (.int .i64 (p.1 : Int)) := by rw [cell_of_row _ _ _ _ _ _ h]; rfl
theorem LateAt.c1 {w : World} {b : Nat} {p : Nat × List UInt8} (h : LateAt w b p) : w.cell? ⟨b, 1, none⟩ = some (.string ⟨p.2.toArray⟩) := by rw [cell_of_row _ _ _ _ _ _ h]; rfl
def flushC (d : DskS) : Int := if readyC d 0 ≠ 0 then readyC d 0 else if d.fuse = 0 then 10 else 0
def flushD (d : DskS) : DskS := if readyC d 0 ≠ 0 then d else if d.fuse = 0 then actD d else { actD d with has := d.cur, wait := [] }
theorem cells_put (im : List UInt8) (k : Nat) (s : List UInt8) (h : k * 64 + s.length ≤ im.length) : ((arrB im).toList.take (k * 64) ++ Lib.byteCells s ++ (arrB im).toList.drop (k * 64 + s.length)).toArray = arrB (putS im k s) := by
  unfold arrB putS
  congr 1
  simp only [List.map_append, List.map_take, List.map_drop]
  rfl
set_option maxRecDepth 100000 in
set_option maxHeartbeats 4000000 in
theorem Flush_any {w0 w : World} {bd bp gh : Nat} {d : DskS} (h : DAt w0 w bd bp gh d) (hw : d.wait.length ≤ 1000000) (h0 : w0.heap.size ≤ w.heap.size) :
    Calls Tryz.prog 9 #[.pointer (some ⟨bd, 0, none⟩)] w fun e w' => (∃ v, e = .returned v ∧ ErrIs w' v (flushC d) 0) ∧ DAt w0 w' bd bp gh (flushD d) ∧ K w0 [] w w' := by
  have HD := Lib.hid h
  have HF := Lib.hid dfault_any
  have HR := Lib.hid (ready_any 0 h)
  obtain ⟨rc, hrc⟩ : ∃ rc, readyC d 0 = rc := ⟨_, rfl⟩
  obtain ⟨C, hC⟩ : ∃ C, flushC d = C := ⟨_, rfl⟩
  obtain ⟨D, hD⟩ : ∃ C, flushD d = C := ⟨_, rfl⟩
  have HC := Lib.hid hC
  have HW := Lib.hid hD
  rw [hC, hD]
  unfold flushC at HC
  unfold flushD at HW
  rw [hrc] at HR HC HW
  clear h hrc hC hD
  go_enter Tryz.func9, Tryz.ntmps9
  go_wp2_with fail
  refine HR.out.mono ?_
  rintro e w1 ⟨⟨v1, rfl, hv1⟩, hq1⟩
  have HD1 := Lib.hid (HD.out.q hq1)
  rcases hv1 with ⟨hc, rfl⟩ | ⟨hc, b, rfl, hf⟩
  · subst hc
    rw [if_neg (by simp)] at HC
    rw [if_neg (by simp)] at HW
    have c0 := HD1.out.bp_cell
    go_wp2_with fail
    refine (act_any HD1.out).mono ?_
    rintro e w2 ⟨rfl, hd2, hk2⟩
    have HD2 := Lib.hid hd2
    have HK2 := Lib.hid ((K.q (w0 := w0) (S := []) hq1).trans hk2)
    clear hd2 hk2 hq1 c0
    by_cases hz : d.fuse = 0
    · rw [if_pos hz] at HC HW
      rw [show decide (d.fuse ≠ 0) = false by simpa using hz]
      go_wp2_with fail
      refine (HF.out 10 _ (by decide)).mono ?_
      rintro e w3 ⟨⟨v, rfl, hv⟩, hq⟩
      have HD3 := Lib.hid (HD2.out.q hq)
      have HK3 := Lib.hid (HK2.out.trans (K.q hq))
      go_wp2_with fail
      go_ret
      exact ⟨⟨v, rfl, by rw [← HC.out]; exact hv⟩, by rw [← HW.out]; exact HD3.out, HK3.out⟩
    · rw [if_neg hz] at HC HW
      rw [show decide (d.fuse ≠ 0) = true by simpa using hz]
      obtain ⟨wv, life, hb1, hb2⟩ := HD2.out.box
      have c2 : w2.cell? ⟨bd, 2, none⟩ = some wv := by rw [cell_of_row _ _ _ _ _ _ hb1]; rfl
      rw [(actD_same d).2.1] at hb2
      obtain ⟨A, cp, hv, hlc, hat⟩ := hb2.at
      subst hv
      obtain ⟨m, hm⟩ : ∃ m, m = d.wait.length := ⟨_, rfl⟩
      rw [← hm] at c2 hlc hw
      have HM := Lib.hid hm
      have HC2 := Lib.hid c2
      have HAT := Lib.hid hat
      have hmi : (m : Int) ≤ 1000000 := by omega
      clear hb1 hb2 hat hm hlc
      go_wp2_with fail
      clear c2
      go_loopw [23] (fun i wr => ∃ k : Nat, k ≤ m ∧ i = .int .i64 (k : Int) ∧ Hid (DAt w0 wr bd bp gh { actD d with has := curL d.has (d.wait.take k) }) ∧ Hid (wr.cell? ⟨bd, 2, none⟩ = some (.slice A m cp)) ∧ Hid (K w0 [] w wr)) (fun i _ => m - (intOf i).toNat)
      case atStart => exact ⟨0, by omega, rfl, by have := HD2.out; rw [List.take_zero]; rw [show curL d.has [] = (actD d).has from ((actD_same d).1).symm]; exact this, HC2.out, HK2.out⟩
      case round =>
        clear HC2 HD2 HK2
        obtain ⟨k, hk, rfl, HDr, HCr, HKr⟩ := hrel
        by_cases hlt : k < m
        · have g1 : decide (k < m) = true := by simpa using hlt
          have hkl : k < d.wait.length := by rw [← HM.out]; exact hlt
          have hok := HD.out.ok.wait _ (List.getElem_mem hkl)
          have hls : (curL d.has (d.wait.take k)).length = d.has.length := curL_len _ _ HD.out.ok.len (fun q hq => HD.out.ok.wait q (List.mem_of_mem_take hq))
          obtain ⟨g, rfl, e0, e1⟩ := HDr.out.late HCr.out k (by rw [(actD_same d).2.1]; exact hkl)
          have hsn := curL_snoc d.has d.wait k hkl
          have hgk : (actD d).wait[k]'(by rw [(actD_same d).2.1]; exact hkl) = d.wait[k] := by congr 1; exact (actD_same d).2.1
          rw [hgk] at e0 e1
          obtain ⟨⟨at_, s⟩, hp⟩ : ∃ p, d.wait[k] = p := ⟨_, rfl⟩
          rw [hp] at e0 e1 hok hsn
          simp only at e0 e1 hok hsn
          have HSN := Lib.hid hsn
          have HOK := Lib.hid hok
          have HLS := Lib.hid hls
          have hs64 : s.length = 64 := hok.2
          clear hp hgk hsn hok hls
          obtain ⟨hb5, hq5⟩ := LateAt.make wr (at_, s)
          have hbn : (wr.alloc (.cells (lateL (0, [])).toArray 68)).heap[wr.heap.size]? = some (.cells (lateL (0, [])).toArray 68 (0, 0)) := (MapKept.heap_alloc wr _).1
          obtain ⟨N5, hN5⟩ : ∃ G, wr.heap.size = G := ⟨_, rfl⟩
          rw [hN5] at hb5 hq5 hbn
          obtain ⟨W4, hW4⟩ : ∃ W, wr.alloc (.cells (lateL (0, [])).toArray 68) = W := ⟨_, rfl⟩
          rw [hW4] at hb5 hq5 hbn
          have hW4b : wr.alloc (.cells #[.int .i64 0, .string ⟨#[]⟩] 68) = W4 := hW4
          clear hW4
          go_upto_region 9 with (refine wpList_store_row rfl 68 _ _ rfl N5 (lateL (at_, s)).toArray (by rfl) (by rfl) 68 _ hbn infoL rfl (lateL_one _) ?_)
          obtain ⟨W5, hW5⟩ : ∃ W, W4.setRow N5 (lateL (at_, s)).toArray = W := ⟨_, rfl⟩
          rw [hW5] at hb5 hq5 ⊢
          have HD5 := Lib.hid (HDr.out.q hq5)
          have HC5 := Lib.hid (hq5.cell HCr.out)
          have HK5 := Lib.hid (HKr.out.trans (K.q hq5))
          have k0 : ∀ m : QW W5, m.val.cell? ⟨N5, 0, none⟩ = some (.int .i64 (at_ : Int)) := fun m => m.cell hb5.c0
          have k1 : ∀ m : QW W5, m.val.cell? ⟨N5, 1, none⟩ = some (.string ⟨s.toArray⟩) := fun m => m.cell hb5.c1
          have hatn : at_ < DskS.n { actD d with has := curL d.has (d.wait.take k) } := by unfold DskS.n; simp only; rw [HLS.out]; exact HOK.out.1
          have HSC := Lib.hid (fun m : QW W5 => (sector_any at_ (HD5.out.q m.le) hatn : Calls Tryz.prog 29 #[.pointer (some ⟨bd, 0, none⟩), .int .i64 (at_ : Int)] m.val fun e w' => e = .returned (.slice (some ⟨gh, at_ * 64, none⟩) 64 ((curL d.has (d.wait.take k)).length - at_ * 64)) ∧ m.val = w'))
          clear hbn hN5 hW4b hW5 hb5 hq5 e0 e1 HDr HCr HKr hatn
          refine wp_region_q_tail 6 (by kernel_rfl) (by kernel_rfl) ?_
          simp only [List.take_succ_cons, List.take_zero, List.drop_succ_cons, List.drop_zero, Act.put]
          (repeat (go_big_quiet_step ((go_at_call 29; exact calls_qs (HSC.out _)))))
          refine wpQuiet_nil ?_
          rintro wa ⟨ma, hma⟩
          have hqa : Q W5 wa := by rw [hma]; exact ma.le
          have HD6 := Lib.hid (HD5.out.q hqa)
          have hc6 := hqa.cell HC5.out
          have HK6 := Lib.hid (HK5.out.trans (K.q hqa))
          clear hma ma hqa k0 k1 HSC HD5 HC5 HK5
          have hfit : at_ * 64 + s.length ≤ (curL d.has (d.wait.take k)).length := by
            rw [HLS.out, HD.out.ok.len]; have := HOK.out.1; omega
          have hfill := HD6.out.fill (putS (curL d.has (d.wait.take k)) at_ s) (putS_len hfit)
          have hcp := cells_put (curL d.has (d.wait.take k)) at_ s hfit
          have hc7 : (wa.setRow gh (arrB (putS (curL d.has (d.wait.take k)) at_ s))).cell? ⟨bd, 2, none⟩ = some (.slice (some ⟨g, 0, none⟩) m cp) := by
            unfold World.cell? at hc6 ⊢
            rw [setRow_other _ _ bd _ HD6.out.ne]; exact hc6
          have HFILL := Lib.hid hfill
          have HC7 := Lib.hid hc7
          clear hfill hc6 hc7
          refine wpList_copy_str rfl (.tmp 30) (.tmp 32) 59 9 5 rfl Tryz.underlying59 (by kernel_rfl) gh (at_ * 64) 64 _ (by rfl) s (by rfl) (arrB (curL d.has (d.wait.take k))) 5 HD6.out.mem s (List.take_of_length_le (by omega)) (by simpa [arrB] using hfit) ?_
          rw [hcp]
          clear hcp hfit
          rw [← HSN.out] at HFILL HC7 ⊢
          go_wp2_with fail
          go_roundw
          case rel => exact ⟨k + 1, hlt, by go_num, HFILL.out.1, HC7.out, HK6.out.trans HFILL.out.2⟩
          case measure => simp [intOf]; omega
        · have g1 : decide (k < m) = false := by simpa using hlt
          obtain rfl : k = m := by omega
          have hcur : curL d.has (d.wait.take k) = d.cur := by rw [HM.out, List.take_length]; rfl
          rw [hcur] at HDr
          have hfin := HDr.out.put HCr.out (w' := wr) (by
            exact (Q.refl wr).gb _) (OwnW.nil w0 wr) (by intro p hp; cases hp)
          have HFIN := Lib.hid hfin
          have c2 := HCr.out
          have f2 : wr.frozen? ⟨bd, 2, none⟩ = false := by
            obtain ⟨wv, life, h1, _⟩ := HDr.out.box
            exact frozen_of_row wr bd 2 _ _ h1
          clear hfin hcur hlt
          go_wp2_with fail
          go_ret
          exact ⟨⟨.nilIface, rfl, by rw [← HC.out]; exact .inl ⟨rfl, rfl⟩⟩, by rw [← HW.out]; exact HFIN.out.1, HKr.out.trans HFIN.out.2⟩
  · rw [if_pos hc] at HC HW
    go_wp2_with fail
    go_ret
    exact ⟨⟨_, rfl, by rw [← HC.out]; exact .inr ⟨hc, b, rfl, hf⟩⟩, by rw [← HW.out]; exact HD1.out, K.q hq1⟩
end Go.Proofs.YtcbepjepcabllaaGreatDoor
/- The disk's Read, New, NewPower. -/
set_option linter.unusedVariables false
set_option linter.unusedSimpArgs false
namespace Go.Proofs.YtcbepjepcabllaaGreatDoor
open Go Go.RowKit
/-- What a sector reads as. -/
def readL (d : DskS) (k : Nat) : List UInt8 := match d.wait.reverse.find? (fun p => p.1 == k) with | some p => p.2 | none => sub d.has (k * 64) (k * 64 + 64)
theorem find_last {l : List (Nat × List UInt8)} {k j : Nat} (hj : j < l.length) (hn : ∀ q, j < q → ∀ hq : q < l.length, (l[q]).1 ≠ k) (he : (l[j]).1 = k) : l.reverse.find? (fun p => p.1 == k) = some l[j] := by
  rw [List.find?_eq_some_iff_getElem]
  refine ⟨by simpa using he, l.length - 1 - j, by simp; omega, ?_, fun i hi => ?_⟩
  · rw [List.getElem_reverse]; congr 1; omega
  · rw [List.getElem_reverse]
    have := hn (l.length - 1 - i) (by omega) (by omega)
    simpa using this
theorem find_none {l : List (Nat × List UInt8)} {k : Nat} (hn : ∀ q, ∀ hq : q < l.length, (l[q]).1 ≠ k) : l.reverse.find? (fun p => p.1 == k) = none := by
  rw [List.find?_eq_none]
  intro p hp
  obtain ⟨q, hq, rfl⟩ := List.getElem_of_mem (List.mem_reverse.1 hp)
  simpa using hn q hq
def readD (d : DskS) (i : Int) : List UInt8 := if readyC d i = 0 then readL d i.toNat else []
theorem conv_at {w : World} {gh off n cap : Nat} {b : List UInt8} (h : w.heap[gh]? = some (.cells (arrB b) 5 (0, 0))) (hn : off + n ≤ b.length) :
    (convert 59 9 (.slice (some ⟨gh, off, none⟩) n cap)).run Tryz.prog w = .ok (.string ⟨(sub b off (off + n)).toArray⟩) w := by
  have hl : (sub b off (off + n)).length = n := by rw [length_sub]; omega
  have := run_convert_bytes_back (P := Tryz.prog) w 59 9 5 ⟨gh, off, none⟩ cap (sub b off (off + n)) Tryz.underlying59 Tryz.underlying5 Tryz.underlying9 (fun i hi => by
    rw [add_off, cell_of_row w gh (off + i) _ _ _ h]
    have hi' : off + i < b.length := by rw [hl] at hi; omega
    have hi2 : i < n := by rw [hl] at hi; exact hi
    simp [arrB, u8V, sub, hi', List.getElem?_take, hi2])
  rw [hl] at this
  exact this
set_option maxRecDepth 100000 in
set_option maxHeartbeats 4000000 in
theorem Read_any {w0 w : World} {bd bp gh : Nat} {d : DskS} (i : Int) (h : DAt w0 w bd bp gh d) (hw : d.wait.length ≤ 1000000) :
    Calls Tryz.prog 77 #[.pointer (some ⟨bd, 0, none⟩), .int .i64 i] w fun e w' => (∃ v, e = .returned (.tuple #[.string ⟨(readD d i).toArray⟩, v]) ∧ ErrIs w' v (readyC d i) 0) ∧ Q w w' := by
  have HD := Lib.hid h
  have HR := Lib.hid (ready_any i h)
  have HLT := Lib.hid (ready_lt (d := d) (i := i))
  obtain ⟨rc, hrc⟩ : ∃ rc, readyC d i = rc := ⟨_, rfl⟩
  obtain ⟨D, hD⟩ : ∃ C, readD d i = C := ⟨_, rfl⟩
  have HW := Lib.hid hD
  rw [hD]
  unfold readD at HW
  rw [hrc] at HR HW HLT ⊢
  clear h hrc hD
  go_enter Tryz.func77, Tryz.ntmps77
  go_wp2_with fail
  refine HR.out.mono ?_
  rintro e w1 ⟨⟨v1, rfl, hv1⟩, hq1⟩
  have HD1 := Lib.hid (HD.out.q hq1)
  have HQ1 := Lib.hid hq1
  rcases hv1 with ⟨hc, rfl⟩ | ⟨hc, b, rfl, hf⟩
  · subst hc
    rw [if_pos rfl] at HW
    obtain ⟨k, rfl⟩ : ∃ k : Nat, i = (k : Int) := ⟨i.toNat, by have := HLT.out rfl; omega⟩
    have HKN : Hid (k < d.n) := Lib.hid (by have := HLT.out rfl; omega)
    rw [Int.toNat_natCast] at HW
    obtain ⟨wv, life, hb1, hb2⟩ := HD1.out.box
    have c2 : w1.cell? ⟨bd, 2, none⟩ = some wv := by rw [cell_of_row _ _ _ _ _ _ hb1]; rfl
    obtain ⟨A, cp, hv, hlc, hat⟩ := hb2.at
    subst hv
    obtain ⟨m, hm⟩ : ∃ m, m = d.wait.length := ⟨_, rfl⟩
    rw [← hm] at c2 hlc hw
    have HM := Lib.hid hm
    have HAT := Lib.hid hat
    have HC1 := Lib.hid c2
    have hmi : (m : Int) ≤ 1000000 := by omega
    clear hb1 hb2 hat hm hlc hq1
    go_wp2_with fail
    clear c2
    go_loopw [7] (fun i wr => ∃ j : Nat, j ≤ m ∧ i = .int .i64 ((j : Int) - 1) ∧ Hid (∀ q, j ≤ q → ∀ hq : q < d.wait.length, (d.wait[q]).1 ≠ k) ∧ Hid (Q w1 wr)) (fun i _ => (intOf i + 1).toNat)
    case atStart => exact ⟨m, by omega, by rfl, fun q h1 h2 => absurd h2 (by have := HM.out; omega), Q.refl _⟩
    case round =>
      obtain ⟨j, hj, rfl, HN, HQ⟩ := hrel
      have hcr := HQ.out.cell HC1.out
      cases j with
      | zero =>
        rw [show (((0 : Nat) : Int) - 1) = -1 from rfl]
        have g1 : decide ((0 : Int) ≤ -1) = false := by decide
        have hrd : readL d k = sub d.has (k * 64) (k * 64 + 64) := by
          unfold readL
          rw [find_none (fun q hq => HN.out q (by omega) hq)]
        have HDr := Lib.hid (HD1.out.q HQ.out)
        have hfit : k * 64 + 64 ≤ d.has.length := by rw [HD.out.ok.len]; have := HKN.out; omega
        have hcv : (convert 59 9 (.slice (some ⟨gh, k * 64, none⟩) 64 (d.has.length - k * 64))).run Tryz.prog wr = .ok (.string ⟨(sub d.has (k * 64) (k * 64 + 64)).toArray⟩) wr := conv_at HDr.out.mem hfit
        have HRD := Lib.hid hrd
        clear hcr hrd hfit
        go_wp2_with fail
        refine (sector_any k HDr.out HKN.out).mono ?_
        rintro e w5 ⟨rfl, rfl⟩
        go_wp2_with fail
        go_ret2
        exact ⟨⟨_, by rw [← HW.out, HRD.out]; rfl, .inl ⟨rfl, rfl⟩⟩, HQ1.out.trans HQ.out⟩
      | succ j =>
        rw [show (((j + 1 : Nat) : Int) - 1) = (j : Int) by omega]
        have g1 : decide ((0 : Int) ≤ (j : Int)) = true := by simp
        have hjm : j < m := hj
        have hjl : j < d.wait.length := by rw [← HM.out]; exact hj
        have hji : (j : Int) < (m : Int) := by omega
        obtain ⟨g, rfl, e0, e1⟩ := HAT.out j hjl
        have e0 := HQ.out.cell e0
        have e1 := HQ.out.cell e1
        have HPJ : Hid (∃ p, d.wait[j] = p) := ⟨_, rfl⟩
        obtain ⟨⟨a, s⟩, hp⟩ := HPJ.out
        rw [hp] at e0 e1
        simp only at e0 e1
        have HP := Lib.hid hp
        clear hp
        by_cases hak : a = k
        · subst hak
          have g2 : ((a : Int) == (a : Int)) = true := by simp
          have hrd : readL d a = s := by
            unfold readL
            rw [find_last hjl (fun q h1 hq => HN.out q h1 hq) (by rw [HP.out]), HP.out]
          have HRD := Lib.hid hrd
          clear hrd
          go_wp2_with fail
          go_ret2
          exact ⟨⟨_, by rw [← HW.out, HRD.out]; rfl, .inl ⟨rfl, rfl⟩⟩, HQ1.out.trans HQ.out⟩
        · have g2 : ((a : Int) == (k : Int)) = false := by simp; omega
          have HN2 : Hid (∀ q, j ≤ q → ∀ hq : q < d.wait.length, (d.wait[q]).1 ≠ k) := Lib.hid (fun q h1 hq => by
            by_cases e : q = j
            · subst e; rw [HP.out]; exact hak
            · exact HN.out q (by omega) hq)
          clear hak
          go_wp2_with fail
          go_roundw
          case rel => exact ⟨j, by omega, by go_num, HN2.out, HQ.out⟩
          case measure => simp [intOf]
  · rw [if_neg hc] at HW
    go_wp2_with fail
    go_ret2
    exact ⟨⟨_, by rw [← HW.out]; rfl, .inr ⟨hc, b, rfl, hf⟩⟩, HQ1.out⟩
end Go.Proofs.YtcbepjepcabllaaGreatDoor
/- A slice of strings as a list of texts; a strings.Builder as the bytes that it holds. -/
set_option linter.unusedVariables false
namespace Go.Proofs.YtcbepjepcabllaaGreatDoor
open Go Go.RowKit

/-- The slice holds these texts. -/
def StrsAt (w : World) (A : Option Addr) (n : Nat) (ls : List (List UInt8)) : Prop :=
  n = ls.length ∧ (0 < n → ∃ ad, A = some ad ∧ ∀ i (h : i < ls.length), w.cell? (ad.add i) = some (.string ⟨(ls[i]).toArray⟩))
theorem StrsAt.q {w w' : World} {A : Option Addr} {n : Nat} {ls : List (List UInt8)} (h : StrsAt w A n ls) (hq : Q w w') : StrsAt w' A n ls :=
  ⟨h.1, fun h0 => let ⟨ad, e, hc⟩ := h.2 h0; ⟨ad, e, fun i hi => hq.cell (hc i hi)⟩⟩
/-- The text at a place. -/
def gL (ls : List (List UInt8)) (i : Nat) : List UInt8 := ls.getD i []
theorem StrsAt.at {w : World} {A : Option Addr} {n : Nat} {ls : List (List UInt8)} (h : StrsAt w A n ls) {i : Nat} (hi : i < n) :
    ∃ ad, A = some ad ∧ w.cell? (ad.add i) = some (.string ⟨(gL ls i).toArray⟩) := by
  obtain ⟨ad, e, hc⟩ := h.2 (by omega)
  have hi' : i < ls.length := by rw [← h.1]; exact hi
  exact ⟨ad, e, by rw [hc i hi']; simp [gL, List.getD, hi']⟩

/-- The row of a type whose values are one cell: its zero value, its bytes. -/
structure OneCell (P : Program) (t e : TypeId) (z : Value) (bytes : Nat) : Prop where
  under : P.underlying t = some (.slice e)
  info : (P.info? e).map (fun i => (i.zero, i.size, i.bytes)) = some (some z, 1, bytes)
  zsize : z.cells.size = 1
/-- A slice that the call has made since w0, of one-cell elements: it holds these. -/
def OwnS (e : TypeId) (w0 w : World) (v : Value) (us : List Value) : Prop := w.ownsRow w0.heap.size e 1 v us.length us
theorem OwnS.nil (e : TypeId) (w0 w : World) : OwnS e w0 w (.slice none 0 0) [] := ⟨rfl, .inl ⟨rfl, rfl⟩⟩
theorem OwnS.q {e : TypeId} {w0 w w' : World} {v : Value} {us : List Value} (h : OwnS e w0 w v us) (hq : Q w w') : OwnS e w0 w' v us := by
  have hg : w.grownBy w' none := ⟨hq.os, hq.tape, hq.output, hq.size, fun k hk _ => Below.block hq k hk⟩
  refine h.kept hg ?_
  rcases hv : v.ownBlock with _ | k
  · exact .inl rfl
  · exact .inr (by simp)
theorem OwnS.block {e : TypeId} {w0 w : World} {v : Value} {us : List Value} (h : OwnS e w0 w v us) {k : Nat} (hk : v.ownBlock = some k) : w0.heap.size ≤ k := by
  rcases h.2 with ⟨rfl, _⟩ | ⟨g, cap, cur, rfl, hb, _⟩
  · cases hk
  · simp [Value.ownBlock] at hk; omega
/-- append of one element to such a slice. -/
theorem wpList_append_one {P : Program} {ops : Array Oper} {rest : List Oper} {o : Oper} {a : Act} {R : Exit → Act → World → Prop} (hgd : o.guard = none) (s x : Operand) (t e : TypeId) (z : Value) (bytes : Nat) (hc : OneCell P t e z bytes)
    (ho : o.op = .call { callee := .builtin .append, args := #[s, x], argTypes := #[t, t] })
    (w0 W : World) (v u : Value) (us : List Value) (hs : a.eval s = v) (hown : OwnS e w0 W v us) (hx : a.eval x = .slice (some ⟨W.heap.size, 0, none⟩) 1 1) (h1 : u.oneCell' = true) (hw0 : w0.heap.size ≤ W.heap.size)
    (hl : us.length + 1 ≤ maxLen) (hbytes : (us.length + 1) * bytes ≤ 140737488355328)
    (h : ∀ v' w', OwnS e w0 w' v' (us ++ [u]) → Below w0.heap.size W w' → wpList P ops R rest (a.put o.dst v') w') : wpList P ops R (o :: rest) a (W.alloc (.cells #[u] e)) := by
  obtain ⟨i, hi, hz, hsz, hby⟩ := info_parts hc.info
  refine wpList_append_own (w := W.alloc (.cells #[u] e)) hgd s x t ho w0.heap.size e i z 1 bytes hc.under hi hz hsz hby hc.zsize (by decide) v us.length us hs (World.ownsRow.alloc hown _) ⟨W.heap.size, 0, none⟩ 1 1 [u] hx rfl ?_ (by simpa using h1) hl hbytes (by simp; omega) ?_
  · intro j y hj
    rcases j with _ | j
    · simp at hj; subst hj
      have e2 : (W.alloc (.cells #[u] e)).heap[W.heap.size]? = some (.cells #[u] e) := (MapKept.heap_alloc W _).1
      have ea : (Addr.add ⟨W.heap.size, 0, none⟩ 0) = ⟨W.heap.size, 0, none⟩ := rfl
      rw [ea]
      unfold World.cell?
      rw [e2]
      rfl
    · simp at hj
  · intro v' w' h2 hg _
    refine h v' w' (by unfold OwnS; simpa using h2) ?_
    exact ((Below.refl _ _).alloc hw0 _).grown hg (by simp; omega) fun k hk => hown.block hk
theorem OwnS.form {e : TypeId} {w0 w : World} {v : Value} {us : List Value} (h : OwnS e w0 w v us) :
    ∃ A cap, v = .slice A us.length cap ∧ us.length ≤ cap ∧ cap ≤ maxLen ∧ ∀ i (hi : i < us.length), ∃ ad, A = some ad ∧ w0.heap.size ≤ ad.block ∧ w.cell? (ad.add i) = some us[i] := by
  rcases h.2 with ⟨rfl, h0⟩ | ⟨g, cap, cur, rfl, hb, hh, hn, hm, hcs, ht⟩
  · exact ⟨none, 0, by rw [h0], by omega, by omega, fun i hi => by omega⟩
  · refine ⟨_, cap, rfl, hn, hm, fun i hi => ⟨_, rfl, hb, ?_⟩⟩
    have ea : (Addr.add ⟨g, 0, none⟩ i) = ⟨g, i, none⟩ := by unfold Addr.add; split <;> simp_all
    have hi' : i < cur.size := by omega
    rw [ea]
    simp only [World.cell?, hh, Option.isSome_none, Bool.false_eq_true, if_false]
    have : us[i]? = cur.toList[i]? := by rw [← ht, List.getElem?_take, if_pos (by omega)]
    rw [List.getElem?_eq_getElem hi] at this
    rw [this]; simp
def strV (l : List UInt8) : Value := .string ⟨l.toArray⟩
theorem OwnS.strs {e : TypeId} {w0 w : World} {v : Value} {ls : List (List UInt8)} (h : OwnS e w0 w v (ls.map strV)) :
    ∃ A cap, v = .slice A ls.length cap ∧ ls.length ≤ cap ∧ cap ≤ maxLen ∧ StrsAt w A ls.length ls := by
  obtain ⟨A, cap, hv, h1, h2, h3⟩ := h.form
  simp only [List.length_map] at hv h1 h3
  refine ⟨A, cap, hv, h1, h2, rfl, fun h0 => ?_⟩
  obtain ⟨ad, rfl, _, _⟩ := h3 0 h0
  refine ⟨ad, rfl, fun i hi => ?_⟩
  obtain ⟨ad', e1, _, hc⟩ := h3 i hi
  cases e1
  simpa [strV] using hc
theorem StrsAt_new (W : World) (e : TypeId) (ls : List (List UInt8)) : StrsAt (W.alloc (.cells (ls.map strV).toArray e)) (some ⟨W.heap.size, 0, none⟩) ls.length ls := by
  refine ⟨rfl, fun _ => ⟨_, rfl, fun i hi => ?_⟩⟩
  have ea : (Addr.add ⟨W.heap.size, 0, none⟩ i) = ⟨W.heap.size, i, none⟩ := by unfold Addr.add; split <;> simp_all
  have e2 : (W.alloc (.cells (ls.map strV).toArray e)).heap[W.heap.size]? = some (.cells (ls.map strV).toArray e) := (MapKept.heap_alloc W _).1
  rw [ea]
  unfold World.cell?
  rw [e2]
  simp [strV, hi]

/-- A Builder in block b, laid since w0: it holds these bytes. -/
def BldAt (w0 w : World) (b : Nat) (l : List UInt8) : Prop := Lib.IsBuilder 132 5 w0.heap.size b (Lib.byteCells l) w
theorem infoBuilder : Builder.Extra Tryz.prog lays166_ren := {
  sizeBuilder := by kernel_rfl
  liesBuilder := by kernel_rfl
  t5 := Tryz.underlying5
  a5 := Tryz.isAgg5
  z5 := Tryz.sizeOf5
  v5 := Tryz.zeroValue5
  infoByte := by kernel_rfl
  cellsByte := by kernel_rfl
  sizeByte := by kernel_rfl
  neB5 := by decide }
theorem byteCells_append (a b : List UInt8) : Lib.byteCells (a ++ b) = Lib.byteCells a ++ Lib.byteCells b := by unfold Lib.byteCells; simp
theorem strCells_list (b : List UInt8) : Lib.strCells ⟨b.toArray⟩ = Lib.byteCells b := by unfold Lib.strCells Lib.byteCells; simp
theorem byteCells_length (a : List UInt8) : (Lib.byteCells a).length = a.length := by unfold Lib.byteCells; simp

theorem BldAt.q {w0 w w' : World} {b : Nat} {l : List UInt8} (h : BldAt w0 w b l) (hq : Q w w') : BldAt w0 w' b l := by
  have hg : w.grownBy w' none := ⟨hq.os, hq.tape, hq.output, hq.size, fun k hk _ => Below.block hq k hk⟩
  have go : ∀ p, Lib.BuilderAt 132 5 w0.heap.size b p (Lib.byteCells l) w → Lib.BuilderAt 132 5 w0.heap.size b p (Lib.byteCells l) w' := by
    rintro p ⟨h1, v, h2, h3, h4⟩
    refine ⟨h1, v, hq.block h2, h3.kept hg ?_, h4⟩
    rcases hv : v.ownBlock with _ | k
    · exact .inl rfl
    · exact .inr (by simp)
  rcases h with h | h
  · exact .inl (go _ h)
  · exact .inr (go _ h)
theorem bldWrite {w0 : World} (b : Nat) (l s : List UInt8) (w : World) (h : BldAt w0 w b l) (hq : w0.heap.size ≤ w.heap.size) (hl : l.length + s.length ≤ 140737488355328) :
    Calls Tryz.prog 83 #[.pointer (some ⟨b, 0, none⟩), .string ⟨s.toArray⟩] w fun e w' => e = .returned (.tuple #[.int .i64 s.length, .nilIface]) ∧ BldAt w0 w' b (l ++ s) ∧ Below w0.heap.size w w' :=
  (Any.Builder_WriteString lays166 infoBuilder w0.heap.size b (Lib.byteCells l) ⟨s.toArray⟩ w h (by rw [byteCells_length]; exact hl) hq).mono fun e w' ⟨h1, h2, h3⟩ =>
    ⟨h1, .inr (by rw [byteCells_append, ← strCells_list s]; exact h2), h3⟩
theorem bldString {w0 : World} (b : Nat) (l : List UInt8) (w : World) (h : BldAt w0 w b l) (hq : w0.heap.size ≤ w.heap.size) :
    Calls Tryz.prog 85 #[.pointer (some ⟨b, 0, none⟩)] w fun e w' => e = .returned (.string ⟨l.toArray⟩) ∧ Below w0.heap.size w w' :=
  Tryz.Builder_String_any w0.heap.size b l w h hq
theorem bldNew (w0 w : World) (hq : w0.heap.size ≤ w.heap.size) : BldAt w0 (w.alloc (.cells #[.pointer none, .slice none 0 0] 132)) w.heap.size [] :=
  .inl ⟨hq, .slice none 0 0, (MapKept.heap_alloc w _).1, ⟨by simp [Lib.byteCells], .inl ⟨rfl, rfl⟩⟩, by simp [Value.ownBlock]⟩
end Go.Proofs.YtcbepjepcabllaaGreatDoor
/- frame's sums and Pack, and the document's. -/
set_option linter.unusedVariables false
namespace Go.Proofs.YtcbepjepcabllaaGreatDoor
open Go Go.RowKit

set_option maxHeartbeats 400000 in
theorem U64_any (n : Int) (w : World) (h0 : 0 ≤ n) (h1 : n ≤ 9223372036854775807) :
    Calls Tryz.prog 97 #[.int .i64 n] w fun e w' => e = .returned (.string ⟨(U32 (n / 4294967296) ++ U32 n).toArray⟩) ∧ Q w w' := by
  have l1 := length_U32 n
  have l2 := length_U32 (n / 4294967296)
  have h2 : 0 ≤ n / 4294967296 := by omega
  have h3 : n / 4294967296 ≤ 9223372036854775807 := by omega
  go_enter Tryz.func97, Tryz.ntmps97
  go_wp2_with fail
  refine (U32_any _ _ h2 h3).mono ?_
  rintro e w1 ⟨rfl, hq1⟩
  go_wp2_with fail
  refine (U32_any _ _ h0 h1).mono ?_
  rintro e w2 ⟨rfl, hq2⟩
  go_wp2_with fail
  go_ret
  exact ⟨rfl, hq1.trans hq2⟩

set_option maxHeartbeats 400000 in
theorem Shift_any (r : BitVec 32) (b : UInt8) (w : World) :
    Calls Tryz.prog 102 #[.int .u32 (r.toNat : Int), .int .u8 (b.toNat : Int)] w fun e w' => e = .returned (.int .u32 ((shB r b).toNat : Int)) ∧ w = w' := by
  have r1 := r.isLt
  have b1 := b.toNat_lt
  have hx : bits .xor .u32 (r.toNat : Int) (b.toNat : Int) = ((r ^^^ bv8 b).toNat : Int) := by rw [← bv8_toNat, xor32]
  go_enter Tryz.func102, Tryz.ntmps102
  go_wp2
  go_loop [0, 5] (fun t i => ∃ k : Nat, k ≤ 8 ∧ i = .int .i64 k ∧ t = .int .u32 ((shN k (r ^^^ bv8 b)).toNat : Int)) (fun _ i => 8 - (intOf i).toNat)
  case atStart => exact ⟨0, by omega, rfl, rfl⟩
  case round =>
    obtain ⟨k, hk, rfl, rfl⟩ := hrel
    have y1 := (shN k (r ^^^ bv8 b)).isLt
    go_wp2
    · go_round
      case rel => exact ⟨k + 1, by omega, by go_num, by rw [sh1_odd ‹_›]; rfl⟩
      case measure => simp [intOf]; omega
    · go_round
      case rel => exact ⟨k + 1, by omega, by go_num, by rw [sh1_even ‹_›]; rfl⟩
      case measure => simp [intOf]; omega
    · go_ret
      obtain rfl : k = 8 := by omega
      exact ⟨rfl, rfl⟩

theorem take_snocB (l : List UInt8) (k : Nat) (h : k < l.length) : l.take (k + 1) = l.take k ++ [gB l k] := by
  rw [List.take_succ_eq_append_getElem h]; simp [gB, List.getD, h]

set_option maxHeartbeats 400000 in
theorem More_any (s : BitVec 32) (l : List UInt8) (w : World) (hl : l.length ≤ 140737488355328) :
    Calls Tryz.prog 61 #[.int .u32 (s.toNat : Int), .string ⟨l.toArray⟩] w fun e w' => e = .returned (.int .u32 ((crcMore s l).toNat : Int)) ∧ w = w' := by
  have r1 := s.isLt
  have hx : bits .xor .u32 IntKind.u32.max (s.toNat : Int) = ((bnot s).toNat : Int) := not32m s
  go_enter Tryz.func61, Tryz.ntmps61
  go_wp2
  go_loop [0, 10] (fun t i => ∃ k : Nat, k ≤ l.length ∧ i = .int .i64 k ∧ t = .int .u32 ((shL (bnot s) (l.take k)).toNat : Int)) (fun _ i => l.length - (intOf i).toNat)
  case atStart => exact ⟨0, by omega, rfl, rfl⟩
  case round =>
    obtain ⟨k, hk, rfl, rfl⟩ := hrel
    have y1 := (shL (bnot s) (l.take k)).isLt
    by_cases hlt : k < l.length
    · have HS : Hid (shL (bnot s) (l.take (k + 1)) = shB (shL (bnot s) (l.take k)) (gB l k)) := by rw [take_snocB l k hlt]; exact shL_snoc _ _ _
      clear hx
      go_wp2_with (go_at_call 79; refine (shift_any _ _ _).mono ?_; rintro e w' ⟨rfl, rfl⟩)
      go_round
      case rel => exact ⟨k + 1, by omega, by go_num, by rw [HS.out]⟩
      case measure => simp [intOf]; omega
    · obtain rfl : k = l.length := by omega
      have hy : bits .xor .u32 IntKind.u32.max ((shL (bnot s) l).toNat : Int) = ((bnot (shL (bnot s) l)).toNat : Int) := not32m _
      rw [List.take_length]
      clear hx
      go_wp2
      go_ret
      exact ⟨rfl, rfl⟩
set_option maxHeartbeats 400000 in
theorem MoreR_any (s : BitVec 32) (l : List UInt8) (w : World) (hl : l.length ≤ 140737488355328) :
    Calls Tryz.prog 101 #[.int .u32 (s.toNat : Int), .string ⟨l.toArray⟩] w fun e w' => e = .returned (.int .u32 ((crcMore s l).toNat : Int)) ∧ w = w' := by
  have r1 := s.isLt
  have hx : bits .xor .u32 IntKind.u32.max (s.toNat : Int) = ((bnot s).toNat : Int) := not32m s
  go_enter Tryz.func101, Tryz.ntmps101
  go_wp2
  go_loop [5, 6] (fun t i => ∃ k : Nat, k ≤ l.length ∧ i = .int .i64 k ∧ t = .int .u32 ((shL (bnot s) (l.take k)).toNat : Int)) (fun _ i => l.length - (intOf i).toNat)
  case atStart => exact ⟨0, by omega, rfl, rfl⟩
  case round =>
    obtain ⟨k, hk, rfl, rfl⟩ := hrel
    have y1 := (shL (bnot s) (l.take k)).isLt
    by_cases hlt : k < l.length
    · have HS : Hid (shL (bnot s) (l.take (k + 1)) = shB (shL (bnot s) (l.take k)) (gB l k)) := by rw [take_snocB l k hlt]; exact shL_snoc _ _ _
      clear hx
      go_wp2_with (go_at_call 102; refine (Shift_any _ _ _).mono ?_; rintro e w' ⟨rfl, rfl⟩)
      go_round
      case rel => exact ⟨k + 1, by omega, by go_num, by rw [HS.out]⟩
      case measure => simp [intOf]; omega
    · obtain rfl : k = l.length := by omega
      have hy : bits .xor .u32 IntKind.u32.max ((shL (bnot s) l).toNat : Int) = ((bnot (shL (bnot s) l)).toNat : Int) := not32m _
      rw [List.take_length]
      clear hx
      go_wp2
      go_ret
      exact ⟨rfl, rfl⟩
set_option maxHeartbeats 400000 in
theorem Sum_any (l : List UInt8) (w : World) (hl : l.length ≤ 140737488355328) :
    Calls Tryz.prog 62 #[.string ⟨l.toArray⟩] w fun e w' => e = .returned (.int .u32 ((crcSum l).toNat : Int)) ∧ w = w' := by
  go_enter Tryz.func62, Tryz.ntmps62
  go_wp2_with fail
  refine (More_any 0#32 l _ hl).mono ?_
  rintro e w1 ⟨rfl, rfl⟩
  go_wp2_with fail
  go_ret
  exact ⟨rfl, rfl⟩
set_option maxHeartbeats 400000 in
theorem SumR_any (l : List UInt8) (w : World) (hl : l.length ≤ 140737488355328) :
    Calls Tryz.prog 98 #[.string ⟨l.toArray⟩] w fun e w' => e = .returned (.int .u32 ((crcSum l).toNat : Int)) ∧ w = w' := by
  go_enter Tryz.func98, Tryz.ntmps98
  go_wp2_with fail
  refine (MoreR_any 0#32 l _ hl).mono ?_
  rintro e w1 ⟨rfl, rfl⟩
  go_wp2_with fail
  go_ret
  exact ⟨rfl, rfl⟩

def hdL (e n : Int) (p : List UInt8) : List UInt8 := U32 p.length ++ (U32 n ++ (U32 (e / 4294967296) ++ U32 e))
def zL (n : Nat) : List UInt8 := List.replicate n 0
theorem length_zL (n : Nat) : (zL n).length = n := by unfold zL; simp
def packL (e n : Int) (p : List UInt8) : List UInt8 :=
  [1, 0, 0, 0] ++ (hdL e n p ++ (U32 ((crcMore (crcSum (hdL e n p)) p).toNat : Int) ++ (p ++ zL ((endsN p.length).toNat - (24 + p.length)))))
theorem crcMore_append (s : BitVec 32) (a b : List UInt8) : crcMore s (a ++ b) = crcMore (crcMore s a) b := by
  unfold crcMore; rw [shL_append, bnot_bnot]
theorem hdL_length (e n : Int) (p : List UInt8) : (hdL e n p).length = 16 := rfl

set_option maxRecDepth 100000 in
set_option maxHeartbeats 1000000 in
theorem Pack_bad (e n : Int) (p : List UInt8) (w : World) (hl : p.length ≤ 140737488355328) (h : rightB e n = false ∨ 60000 < p.length) :
    Calls Tryz.prog 33 #[.int .i64 e, .int .i64 n, .string ⟨p.toArray⟩] w fun x w' => ∃ ev, x = .returned (.tuple #[.string ⟨#[]⟩, ev]) ∧ ErrIs w' ev 1 0 ∧ Q w w' := by
  by_cases hr : rightB e n = true
  · have hp : 60000 < p.length := by rcases h with h | h; · rw [hr] at h; cases h
                                     · exact h
    go_enter Tryz.func33, Tryz.ntmps33
    go_wp2_with fail
    refine (right_any _ _ _).mono ?_
    rintro x w1 ⟨rfl, rfl⟩
    rw [hr]
    go_wp2_with fail
    refine (fault_any _ _ _).mono ?_
    rintro e w1 ⟨⟨b, rfl, hf⟩, hq1⟩
    go_wp2_with fail
    go_ret2
    exact ⟨_, rfl, .inr ⟨by decide, b, rfl, hf⟩, hq1⟩
  · have hr : rightB e n = false := by simpa using hr
    go_enter Tryz.func33, Tryz.ntmps33
    go_wp2_with fail
    refine (right_any _ _ _).mono ?_
    rintro x w1 ⟨rfl, rfl⟩
    rw [hr]
    go_wp2_with fail
    refine (fault_any _ _ _).mono ?_
    rintro e w1 ⟨⟨b, rfl, hf⟩, hq1⟩
    go_wp2_with fail
    go_ret2
    exact ⟨_, rfl, .inr ⟨by decide, b, rfl, hf⟩, hq1⟩

theorem right_spec {e n : Int} (h : rightB e n = true) : 0 ≤ e ∧ e ≤ 4611686018427387904 ∧ 0 ≤ n ∧ n ≤ 4294967295 := of_decide_eq_true h
theorem repeat_zero (c : Nat) : Lib.repeatL [0] c = zL c := by
  unfold zL
  induction c with
  | zero => rfl
  | succ c ih => rw [Lib.repeatL, ih]; rfl

set_option maxRecDepth 100000 in
set_option maxHeartbeats 1000000 in
theorem Pack_ok (e n : Int) (p : List UInt8) (w : World) (hl : p.length ≤ 60000) (h : rightB e n = true) :
    Calls Tryz.prog 33 #[.int .i64 e, .int .i64 n, .string ⟨p.toArray⟩] w fun x w' => x = .returned (.tuple #[.string ⟨(packL e n p).toArray⟩, .nilIface]) ∧ Q w w' := by
  obtain ⟨e0, e1, n0, n1⟩ := right_spec h
  have l1 : ∀ k, (U32 k).length = 4 := length_U32
  go_enter Tryz.func33, Tryz.ntmps33
  go_wp2_with fail
  refine (right_any _ _ _).mono ?_
  rintro x w1 ⟨rfl, rfl⟩
  rw [h]
  go_wp2_with fail
  refine (u32_any _ _ (by omega) (by omega)).mono ?_
  rintro x w1 ⟨rfl, hq1⟩
  go_wp2_with fail
  refine (u32_any _ _ (by omega) (by omega)).mono ?_
  rintro x w2 ⟨rfl, hq2⟩
  go_wp2_with fail
  refine (u32_any _ _ (by omega) (by omega)).mono ?_
  rintro x w3 ⟨rfl, hq3⟩
  go_wp2_with fail
  refine (u32_any _ _ (by omega) (by omega)).mono ?_
  rintro x w4 ⟨rfl, hq4⟩
  go_wp2_with fail
  have hH : hdL e n p = U32 p.length ++ (U32 n ++ (U32 (e / 4294967296) ++ U32 e)) := rfl
  rw [← hH]
  have HH := Lib.hid hH
  clear hH
  have lh := hdL_length e n p
  have LH := Lib.hid lh
  clear lh
  refine (Sum_any _ _ (by rw [LH.out]; omega)).mono ?_
  rintro x w5 ⟨rfl, rfl⟩
  go_wp2_with fail
  refine (More_any _ _ _ (by omega)).mono ?_
  rintro x w5 ⟨rfl, rfl⟩
  have LH := LH.out
  have c1 := (crcMore (crcSum (hdL e n p)) p).isLt
  have c2 : 0 ≤ ((crcMore (crcSum (hdL e n p)) p).toNat : Int) := by omega
  have c3 : ((crcMore (crcSum (hdL e n p)) p).toNat : Int) < 4294967296 := by omega
  go_wp2_with fail
  refine (u32_any _ _ (by omega) (by omega)).mono ?_
  rintro x w6 ⟨rfl, hq6⟩
  go_wp2_with fail
  refine (ends_any _ _ (by omega) (by omega)).mono ?_
  rintro x w7 ⟨rfl, rfl⟩
  have hE : endsN p.length = (endsN p.length).toNat := by unfold endsN; omega
  have hE2 : 24 + p.length ≤ (endsN p.length).toNat := by unfold endsN; omega
  have hE3 : (endsN p.length).toNat ≤ 24 + p.length + 63 := by unfold endsN; omega
  rw [hE]
  generalize (endsN p.length).toNat = E at hE hE2 hE3
  have HE := Lib.hid hE
  clear hE
  go_wp2_with fail
  rw [show ((E : Int) - (16 + (4 + (p.length : Int)) + 1 + 1 + 1 + 1)) = ((E - (24 + p.length) : Nat) : Int) from by omega]
  refine (Tryz.strings_Repeat ⟨[(0 : UInt8)].toArray⟩ (E - (24 + p.length)) _ (by omega) (by simp [ByteArray.size]; omega)).mono ?_
  rintro x w7 ⟨rfl, hq7⟩
  have hz : Lib.repeatL (ByteArray.mk [(0 : UInt8)].toArray).data.toList (E - (24 + p.length)) = zL (E - (24 + p.length)) := repeat_zero _
  rw [hz]
  have hlz : (zL (E - (24 + p.length))).length ≤ 63 := by rw [length_zL]; omega
  generalize hZ : zL (E - (24 + p.length)) = Z at hlz
  have HZ := Lib.hid hZ
  clear hZ hz
  go_wp2_with fail
  go_ret2
  refine ⟨ret_eq ?_, ((((hq1.trans hq2).trans hq3).trans hq4).trans hq6).trans hq7⟩
  have e1 : packL e n p = [1, 0, 0, 0] ++ (hdL e n p ++ (U32 ((crcMore (crcSum (hdL e n p)) p).toNat : Int) ++ (p ++ Z))) := by
    unfold packL; rw [HE.out, Int.toNat_natCast, HZ.out]
  rw [e1]
  simp
end Go.Proofs.YtcbepjepcabllaaGreatDoor
/- the document's Pack. -/
set_option linter.unusedVariables false
namespace Go.Proofs.YtcbepjepcabllaaGreatDoor
open Go Go.RowKit

theorem rightB_false {e n : Int} (h : rightB e n = false) : e < 0 ∨ 4611686018427387904 < e ∨ n < 0 ∨ 4294967295 < n := by
  have := of_decide_eq_false h; omega

theorem conv_zeros (w : World) (d cap : Nat) :
    (convert 59 9 (.slice (some ⟨w.heap.size, 0, none⟩) d cap)).run Tryz.prog (w.alloc (.cells (madeCells #[.int .u8 0] d) 5)) =
      .ok (.string ⟨(zL d).toArray⟩) (w.alloc (.cells (madeCells #[.int .u8 0] d) 5)) := by
  have h := conv_bytes (P := Tryz.prog) w 59 9 5 cap (List.replicate d 0) Tryz.underlying59 Tryz.underlying5 Tryz.underlying9 (by intro n hn; have := List.eq_of_mem_replicate hn; omega)
  have e1 : (madeCells #[.int .u8 0] d) = ((List.replicate d (0 : Int)).map (Value.int .u8)).toArray := by
    rw [← Array.toList_inj, toList_madeCells_one]; simp
  rw [e1]
  simpa [byteOf, zL] using h

end Go.Proofs.YtcbepjepcabllaaGreatDoor
