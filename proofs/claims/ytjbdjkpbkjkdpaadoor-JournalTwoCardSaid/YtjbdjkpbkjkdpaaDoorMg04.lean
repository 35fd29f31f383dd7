/- Texts of this proof, laid into one: JdD, JdE, FrD, FrE, JdF, JnA, JnB. -/
import Derived.Test.YtjbdjkpbkjkdpaaDoorMg03
import Derived.Deep.OwnRows
import Derived.Outline
/- The disk's sector, Flush, Read. -/
set_option linter.unusedVariables false
set_option linter.unusedSimpArgs false
namespace Go.Proofs.YtjbdjkpbkjkdpaaDoor
open Go Go.RowKit
theorem sector_any {w0 w : World} {bd bp gh : Nat} {d : DskS} (k : Nat) (h : DAt w0 w bd bp gh d) (hk : k < d.n) :
    Calls Tryd.prog 42 #[.pointer (some ⟨bd, 0, none⟩), .int .i64 (k : Int)] w fun e w' => e = .returned (.slice (some ⟨gh, k * 64, none⟩) 64 (d.has.length - k * 64)) ∧ w = w' := by
  have c1 := h.has_cell
  have h1 := h.ok.len
  have h2 := h.ok.most
  obtain ⟨n, hn⟩ : ∃ n, d.has.length = n := ⟨_, rfl⟩
  rw [hn] at c1 h1 ⊢
  have a1 : k * 64 + 64 ≤ n := by omega
  have a2 : n ≤ 524288 := by omega
  have a3 : (k : Int) * 64 ≤ ((k : Int) + 1) * 64 := by omega
  have a4 : ((k : Int) + 1) * 64 ≤ (n : Int) := by omega
  have e1 : (((k : Int) + 1) * 64 - (k : Int) * 64).toNat = 64 := by omega
  have e2 : ((k : Int) * 64).toNat = k * 64 := by omega
  clear h h1 h2 hn hk
  go_enter Tryd.func42, Tryd.ntmps42
  go_wp2_with fail
  rw [show (k + 1) * 64 - k * 64 = 64 by omega]
  go_ret
  exact ⟨rfl, rfl⟩
/-- A sector laid onto an image; what a disk reads as, its pending writes among it. -/
def putS (im : List UInt8) (k : Nat) (s : List UInt8) : List UInt8 := im.take (k * 64) ++ s ++ im.drop (k * 64 + s.length)
def curL (im : List UInt8) (l : List (Nat × List UInt8)) : List UInt8 := l.foldl (fun im p => putS im p.1 p.2) im
def DskS.cur (d : DskS) : List UInt8 := curL d.has d.wait
theorem putS_len {im : List UInt8} {k : Nat} {s : List UInt8} (h : k * 64 + s.length ≤ im.length) : (putS im k s).length = im.length := by
  simp only [putS, List.length_append, List.length_take, List.length_drop]; omega
theorem curL_len {n : Nat} (l : List (Nat × List UInt8)) : ∀ (im : List UInt8), im.length = 64 * n → (∀ p ∈ l, p.1 < n ∧ p.2.length = 64) → (curL im l).length = im.length := by
  induction l with
  | nil => intro im _ _; rfl
  | cons p r ih =>
    intro im h hl
    have hp := hl p (by simp)
    have h1 : (putS im p.1 p.2).length = im.length := putS_len (by omega)
    have := ih (putS im p.1 p.2) (by omega) (fun q hq => hl q (by simp [hq]))
    simpa [curL, h1] using this
/-- The disk's bytes written anew. -/
theorem DAt.fill {w0 w : World} {bd bp gh : Nat} {d : DskS} (h : DAt w0 w bd bp gh d) (b : List UInt8) (hb : b.length = d.has.length) : DAt w0 (w.setRow gh (arrB b)) bd bp gh { d with has := b } ∧ K w0 [] w (w.setRow gh (arrB b)) := by
  obtain ⟨wv, life, h1, h2⟩ := h.box
  obtain ⟨acts, h3, h4⟩ := h.pow
  have hm := h.mem
  have keep : ∀ {k : Nat} {cs : Array Value} {t : TypeId} {fz : Nat × Nat}, w.heap[k]? = some (.cells cs t fz) → t ≠ 5 → (w.setRow gh (arrB b)).heap[k]? = some (.cells cs t fz) := fun {k cs t fz} hk hd => by
    rw [setRow_other _ _ k _ (fun e => by subst e; rw [hm] at hk; injection hk with hk; injection hk with _ e2 _; exact hd e2.symm)]; exact hk
  refine ⟨⟨⟨wv, life, ?_, h2.g (gb_setRow w gh _) (fun k hk e => ?_)⟩, ⟨acts, keep h3 (by decide), h4⟩, setRow_heap w _ _ _ _ _ hm, h.nd, h.np, h.nh, ?_⟩, K.gb (gb_setRow w gh _) h.nh (.inr (by rw [elemT_of hm]; decide))⟩
  · rw [hb]; exact keep h1 (by decide)
  · injection e with e; subst e
    obtain ⟨_, _, cur, fz, hh⟩ := h2.block hk
    rw [hm] at hh; injection hh with hh; injection hh with _ e2 _; revert e2; decide
  · have hn : DskS.n { d with has := b } = d.n := by unfold DskS.n; rw [hb]
    exact ⟨by rw [hn]; rw [hb]; exact h.ok.len, by rw [hn]; exact h.ok.most, h.ok.fuse, by rw [hn]; exact h.ok.wait⟩
theorem DAt.ne {w0 w : World} {bd bp gh : Nat} {d : DskS} (h : DAt w0 w bd bp gh d) : bd ≠ gh := fun e => by
  obtain ⟨wv, life, h1, h2⟩ := h.box
  have hm := h.mem
  subst e
  rw [h1] at hm; injection hm with hm; injection hm with _ e2 _; revert e2; decide
/-- The pending writes, by the slice that the disk's block holds. -/
theorem DAt.late {w0 w : World} {bd bp gh : Nat} {d : DskS} (h : DAt w0 w bd bp gh d) {A : Option Addr} {n cp : Nat} (hc : w.cell? ⟨bd, 2, none⟩ = some (.slice A n cp)) :
    ∀ j (hj : j < d.wait.length), ∃ g, A = some ⟨g, 0, none⟩ ∧ w.cell? ⟨g, j * 2, none⟩ = some (.int .i64 ((d.wait[j].1 : Nat) : Int)) ∧ w.cell? ⟨g, j * 2 + 1, none⟩ = some (.string ⟨d.wait[j].2.toArray⟩) := by
  obtain ⟨wv, life, h1, h2⟩ := h.box
  obtain ⟨A', cp', hv, _, hat⟩ := h2.at
  subst hv
  have : w.cell? ⟨bd, 2, none⟩ = some (.slice A' d.wait.length cp') := by rw [cell_of_row _ _ _ _ _ _ h1]; rfl
  rw [hc] at this
  injection this with e
  injection e with e1 e2 e3
  subst e1
  exact hat
theorem lateL_one (p : Nat × List UInt8) : (lateL p).toArray.all (·.oneCell') = true := by rw [List.all_toArray]; rfl
theorem curL_snoc (im : List UInt8) (l : List (Nat × List UInt8)) (k : Nat) (hk : k < l.length) : curL im (l.take (k + 1)) = putS (curL im (l.take k)) l[k].1 l[k].2 := by
  unfold curL
  rw [List.take_succ_eq_append_getElem hk, List.foldl_append]; rfl
/-- A pending write in a box. -/
def LateAt (w : World) (b : Nat) (p : Nat × List UInt8) : Prop := w.heap[b]? = some (.cells (lateL p).toArray 76 (0, 0))
theorem LateAt.q {w w' : World} {b : Nat} {p : Nat × List UInt8} (h : LateAt w b p) (hq : Q w w') : LateAt w' b p := hq.block h
theorem LateAt.make (w : World) (p : Nat × List UInt8) : LateAt ((w.alloc (.cells (lateL (0, [])).toArray 76)).setRow w.heap.size (lateL p).toArray) w.heap.size p ∧ Q w ((w.alloc (.cells (lateL (0, [])).toArray 76)).setRow w.heap.size (lateL p).toArray) :=
  ⟨setRow_heap _ _ _ _ _ _ (MapKept.heap_alloc w _).1, Q.setRow ((Q.refl _).alloc _) (Nat.le_refl _) _⟩
theorem LateAt.c0 {w : World} {b : Nat} {p : Nat × List UInt8} (h : LateAt w b p) : w.cell? ⟨b, 0, none⟩ = some (.int .i64 (p.1 : Int)) := by rw [cell_of_row _ _ _ _ _ _ h]; rfl
theorem LateAt.c1 {w : World} {b : Nat} {p : Nat × List UInt8} (h : LateAt w b p) : w.cell? ⟨b, 1, none⟩ = some (.string ⟨p.2.toArray⟩) := by rw [cell_of_row _ _ _ _ _ _ h]; rfl
def flushC (d : DskS) : Int := if readyC d 0 ≠ 0 then readyC d 0 else if d.fuse = 0 then 10 else 0
def flushD (d : DskS) : DskS := if readyC d 0 ≠ 0 then d else if d.fuse = 0 then actD d else { actD d with has := d.cur, wait := [] }
theorem cells_put (im : List UInt8) (k : Nat) (s : List UInt8) (h : k * 64 + s.length ≤ im.length) : ((arrB im).toList.take (k * 64) ++ Lib.byteCells s ++ (arrB im).toList.drop (k * 64 + s.length)).toArray = arrB (putS im k s) := by
  unfold arrB putS
  congr 1
  simp only [List.map_append, List.map_take, List.map_drop]
  rfl
set_option maxRecDepth 100000 in
set_option maxHeartbeats 4000000 in
theorem Flush_any {w0 w : World} {bd bp gh : Nat} {d : DskS} (h : DAt w0 w bd bp gh d) (hw : d.wait.length ≤ 1000000) (h0 : w0.heap.size ≤ w.heap.size) :
    Calls Tryd.prog 60 #[.pointer (some ⟨bd, 0, none⟩)] w fun e w' => (∃ v, e = .returned v ∧ ErrIs w' v (flushC d) 0) ∧ DAt w0 w' bd bp gh (flushD d) ∧ K w0 [] w w' := by
  have HD := Lib.hid h
  have HF := Lib.hid dfault_any
  have HR := Lib.hid (ready_any 0 h)
  obtain ⟨rc, hrc⟩ : ∃ rc, readyC d 0 = rc := ⟨_, rfl⟩
  obtain ⟨C, hC⟩ : ∃ C, flushC d = C := ⟨_, rfl⟩
  obtain ⟨D, hD⟩ : ∃ C, flushD d = C := ⟨_, rfl⟩
  have HC := Lib.hid hC
  have HW := Lib.hid hD
  rw [hC, hD]
  unfold flushC at HC
  unfold flushD at HW
  rw [hrc] at HR HC HW
  clear h hrc hC hD
  go_enter Tryd.func60, Tryd.ntmps60
  go_wp2_with fail
  refine HR.out.mono ?_
  rintro e w1 ⟨⟨v1, rfl, hv1⟩, hq1⟩
  have HD1 := Lib.hid (HD.out.q hq1)
  rcases hv1 with ⟨hc, rfl⟩ | ⟨hc, b, rfl, hf⟩
  · subst hc
    rw [if_neg (by simp)] at HC
    rw [if_neg (by simp)] at HW
    have c0 := HD1.out.bp_cell
    go_wp2_with fail
    refine (act_any HD1.out).mono ?_
    rintro e w2 ⟨rfl, hd2, hk2⟩
    have HD2 := Lib.hid hd2
    have HK2 := Lib.hid ((K.q (w0 := w0) (S := []) hq1).trans hk2)
    clear hd2 hk2 hq1 c0
    by_cases hz : d.fuse = 0
    · rw [if_pos hz] at HC HW
      rw [show decide (d.fuse ≠ 0) = false by simpa using hz]
      go_wp2_with fail
      refine (HF.out 10 _ (by decide)).mono ?_
      rintro e w3 ⟨⟨v, rfl, hv⟩, hq⟩
      have HD3 := Lib.hid (HD2.out.q hq)
      have HK3 := Lib.hid (HK2.out.trans (K.q hq))
      go_wp2_with fail
      go_ret
      exact ⟨⟨v, rfl, by rw [← HC.out]; exact hv⟩, by rw [← HW.out]; exact HD3.out, HK3.out⟩
    · rw [if_neg hz] at HC HW
      rw [show decide (d.fuse ≠ 0) = true by simpa using hz]
      obtain ⟨wv, life, hb1, hb2⟩ := HD2.out.box
      have c2 : w2.cell? ⟨bd, 2, none⟩ = some wv := by rw [cell_of_row _ _ _ _ _ _ hb1]; rfl
      rw [(actD_same d).2.1] at hb2
      obtain ⟨A, cp, hv, hlc, hat⟩ := hb2.at
      subst hv
      obtain ⟨m, hm⟩ : ∃ m, m = d.wait.length := ⟨_, rfl⟩
      rw [← hm] at c2 hlc hw
      have HM := Lib.hid hm
      have HC2 := Lib.hid c2
      have HAT := Lib.hid hat
      have hmi : (m : Int) ≤ 1000000 := by omega
      clear hb1 hb2 hat hm hlc
      go_wp2_with fail
      clear c2
      go_loopw [23] (fun i wr => ∃ k : Nat, k ≤ m ∧ i = .int .i64 (k : Int) ∧ Hid (DAt w0 wr bd bp gh { actD d with has := curL d.has (d.wait.take k) }) ∧ Hid (wr.cell? ⟨bd, 2, none⟩ = some (.slice A m cp)) ∧ Hid (K w0 [] w wr)) (fun i _ => m - (intOf i).toNat)
      case atStart => exact ⟨0, by omega, rfl, by have := HD2.out; rw [List.take_zero]; rw [show curL d.has [] = (actD d).has from ((actD_same d).1).symm]; exact this, HC2.out, HK2.out⟩
      case round =>
        clear HC2 HD2 HK2
        obtain ⟨k, hk, rfl, HDr, HCr, HKr⟩ := hrel
        by_cases hlt : k < m
        · have g1 : decide (k < m) = true := by simpa using hlt
          have hkl : k < d.wait.length := by rw [← HM.out]; exact hlt
          have hok := HD.out.ok.wait _ (List.getElem_mem hkl)
          have hls : (curL d.has (d.wait.take k)).length = d.has.length := curL_len _ _ HD.out.ok.len (fun q hq => HD.out.ok.wait q (List.mem_of_mem_take hq))
          obtain ⟨g, rfl, e0, e1⟩ := HDr.out.late HCr.out k (by rw [(actD_same d).2.1]; exact hkl)
          have hsn := curL_snoc d.has d.wait k hkl
          have hgk : (actD d).wait[k]'(by rw [(actD_same d).2.1]; exact hkl) = d.wait[k] := by congr 1; exact (actD_same d).2.1
          rw [hgk] at e0 e1
          obtain ⟨⟨at_, s⟩, hp⟩ : ∃ p, d.wait[k] = p := ⟨_, rfl⟩
          rw [hp] at e0 e1 hok hsn
          simp only at e0 e1 hok hsn
          have HSN := Lib.hid hsn
          have HOK := Lib.hid hok
          have HLS := Lib.hid hls
          have hs64 : s.length = 64 := hok.2
          clear hp hgk hsn hok hls
          obtain ⟨hb5, hq5⟩ := LateAt.make wr (at_, s)
          have hbn : (wr.alloc (.cells (lateL (0, [])).toArray 76)).heap[wr.heap.size]? = some (.cells (lateL (0, [])).toArray 76 (0, 0)) := (MapKept.heap_alloc wr _).1
          obtain ⟨N5, hN5⟩ : ∃ G, wr.heap.size = G := ⟨_, rfl⟩
          rw [hN5] at hb5 hq5 hbn
          obtain ⟨W4, hW4⟩ : ∃ W, wr.alloc (.cells (lateL (0, [])).toArray 76) = W := ⟨_, rfl⟩
          rw [hW4] at hb5 hq5 hbn
          have hW4b : wr.alloc (.cells #[.int .i64 0, .string ⟨#[]⟩] 76) = W4 := hW4
          clear hW4
          go_upto_region 9 with (refine wpList_store_row rfl 76 _ _ rfl N5 (lateL (at_, s)).toArray (by rfl) (by rfl) 76 _ hbn infoL rfl (lateL_one _) ?_)
          obtain ⟨W5, hW5⟩ : ∃ W, W4.setRow N5 (lateL (at_, s)).toArray = W := ⟨_, rfl⟩
          rw [hW5] at hb5 hq5 ⊢
          have HD5 := Lib.hid (HDr.out.q hq5)
          have HC5 := Lib.hid (hq5.cell HCr.out)
          have HK5 := Lib.hid (HKr.out.trans (K.q hq5))
          have k0 : ∀ m : QW W5, m.val.cell? ⟨N5, 0, none⟩ = some (.int .i64 (at_ : Int)) := fun m => m.cell hb5.c0
          have k1 : ∀ m : QW W5, m.val.cell? ⟨N5, 1, none⟩ = some (.string ⟨s.toArray⟩) := fun m => m.cell hb5.c1
          have hatn : at_ < DskS.n { actD d with has := curL d.has (d.wait.take k) } := by unfold DskS.n; simp only; rw [HLS.out]; exact HOK.out.1
          have HSC := Lib.hid (fun m : QW W5 => (sector_any at_ (HD5.out.q m.le) hatn : Calls Tryd.prog 42 #[.pointer (some ⟨bd, 0, none⟩), .int .i64 (at_ : Int)] m.val fun e w' => e = .returned (.slice (some ⟨gh, at_ * 64, none⟩) 64 ((curL d.has (d.wait.take k)).length - at_ * 64)) ∧ m.val = w'))
          clear hbn hN5 hW4b hW5 hb5 hq5 e0 e1 HDr HCr HKr hatn
          refine wp_region_q_tail 6 (by kernel_rfl) (by kernel_rfl) ?_
          simp only [List.take_succ_cons, List.take_zero, List.drop_succ_cons, List.drop_zero, Act.put]
          (repeat (go_big_quiet_step ((go_at_call 42; exact calls_qs (HSC.out _)))))
          refine wpQuiet_nil ?_
          rintro wa ⟨ma, hma⟩
          have hqa : Q W5 wa := by rw [hma]; exact ma.le
          have HD6 := Lib.hid (HD5.out.q hqa)
          have hc6 := hqa.cell HC5.out
          have HK6 := Lib.hid (HK5.out.trans (K.q hqa))
          clear hma ma hqa k0 k1 HSC HD5 HC5 HK5
          have hfit : at_ * 64 + s.length ≤ (curL d.has (d.wait.take k)).length := by
            rw [HLS.out, HD.out.ok.len]; have := HOK.out.1; omega
          have hfill := HD6.out.fill (putS (curL d.has (d.wait.take k)) at_ s) (putS_len hfit)
          have hcp := cells_put (curL d.has (d.wait.take k)) at_ s hfit
          have hc7 : (wa.setRow gh (arrB (putS (curL d.has (d.wait.take k)) at_ s))).cell? ⟨bd, 2, none⟩ = some (.slice (some ⟨g, 0, none⟩) m cp) := by
            unfold World.cell? at hc6 ⊢
            rw [setRow_other _ _ bd _ HD6.out.ne]; exact hc6
          have HFILL := Lib.hid hfill
          have HC7 := Lib.hid hc7
          clear hfill hc6 hc7
          refine wpList_copy_str rfl (.tmp 30) (.tmp 32) 69 9 5 rfl Tryd.underlying69 (by kernel_rfl) gh (at_ * 64) 64 _ (by rfl) s (by rfl) (arrB (curL d.has (d.wait.take k))) 5 HD6.out.mem s (List.take_of_length_le (by omega)) (by simpa [arrB] using hfit) ?_
          rw [hcp]
          clear hcp hfit
          rw [← HSN.out] at HFILL HC7 ⊢
          go_wp2_with fail
          go_roundw
          case rel => exact ⟨k + 1, hlt, by go_num, HFILL.out.1, HC7.out, HK6.out.trans HFILL.out.2⟩
          case measure => simp [intOf]; omega
        · have g1 : decide (k < m) = false := by simpa using hlt
          obtain rfl : k = m := by omega
          have hcur : curL d.has (d.wait.take k) = d.cur := by rw [HM.out, List.take_length]; rfl
          rw [hcur] at HDr
          have hfin := HDr.out.put HCr.out (w' := wr) (by
            exact (Q.refl wr).gb _) (OwnW.nil w0 wr) (by intro p hp; cases hp)
          have HFIN := Lib.hid hfin
          have c2 := HCr.out
          have f2 : wr.frozen? ⟨bd, 2, none⟩ = false := by
            obtain ⟨wv, life, h1, _⟩ := HDr.out.box
            exact frozen_of_row wr bd 2 _ _ h1
          clear hfin hcur hlt
          go_wp2_with fail
          go_ret
          exact ⟨⟨.nilIface, rfl, by rw [← HC.out]; exact .inl ⟨rfl, rfl⟩⟩, by rw [← HW.out]; exact HFIN.out.1, HKr.out.trans HFIN.out.2⟩
  · rw [if_pos hc] at HC HW
    go_wp2_with fail
    go_ret
    exact ⟨⟨_, rfl, by rw [← HC.out]; exact .inr ⟨hc, b, rfl, hf⟩⟩, by rw [← HW.out]; exact HD1.out, K.q hq1⟩
end Go.Proofs.YtjbdjkpbkjkdpaaDoor
/- The disk's Read, New, NewPower. -/
set_option linter.unusedVariables false
set_option linter.unusedSimpArgs false
namespace Go.Proofs.YtjbdjkpbkjkdpaaDoor
open Go Go.RowKit
/-- What a sector reads as. -/
def readL (d : DskS) (k : Nat) : List UInt8 := match d.wait.reverse.find? (fun p => p.1 == k) with | some p => p.2 | none => sub d.has (k * 64) (k * 64 + 64)
theorem find_last {l : List (Nat × List UInt8)} {k j : Nat} (hj : j < l.length) (hn : ∀ q, j < q → ∀ hq : q < l.length, (l[q]).1 ≠ k) (he : (l[j]).1 = k) : l.reverse.find? (fun p => p.1 == k) = some l[j] := by
  rw [List.find?_eq_some_iff_getElem]
  refine ⟨by simpa using he, l.length - 1 - j, by simp; omega, ?_, fun i hi => ?_⟩
  · rw [List.getElem_reverse]; congr 1; omega
  · rw [List.getElem_reverse]
    have := hn (l.length - 1 - i) (by omega) (by omega)
    simpa using this
theorem find_none {l : List (Nat × List UInt8)} {k : Nat} (hn : ∀ q, ∀ hq : q < l.length, (l[q]).1 ≠ k) : l.reverse.find? (fun p => p.1 == k) = none := by
  rw [List.find?_eq_none]
  intro p hp
  obtain ⟨q, hq, rfl⟩ := List.getElem_of_mem (List.mem_reverse.1 hp)
  simpa using hn q hq
def readD (d : DskS) (i : Int) : List UInt8 := if readyC d i = 0 then readL d i.toNat else []
theorem conv_at {w : World} {gh off n cap : Nat} {b : List UInt8} (h : w.heap[gh]? = some (.cells (arrB b) 5 (0, 0))) (hn : off + n ≤ b.length) :
    (convert 69 9 (.slice (some ⟨gh, off, none⟩) n cap)).run Tryd.prog w = .ok (.string ⟨(sub b off (off + n)).toArray⟩) w := by
  have hl : (sub b off (off + n)).length = n := by rw [length_sub]; omega
  have := run_convert_bytes_back (P := Tryd.prog) w 69 9 5 ⟨gh, off, none⟩ cap (sub b off (off + n)) Tryd.underlying69 Tryd.underlying5 Tryd.underlying9 (fun i hi => by
    rw [add_off, cell_of_row w gh (off + i) _ _ _ h]
    have hi' : off + i < b.length := by rw [hl] at hi; omega
    have hi2 : i < n := by rw [hl] at hi; exact hi
    simp [arrB, u8V, sub, hi', List.getElem?_take, hi2])
  rw [hl] at this
  exact this
set_option maxRecDepth 100000 in
set_option maxHeartbeats 4000000 in
theorem Read_any {w0 w : World} {bd bp gh : Nat} {d : DskS} (i : Int) (h : DAt w0 w bd bp gh d) (hw : d.wait.length ≤ 1000000) :
    Calls Tryd.prog 61 #[.pointer (some ⟨bd, 0, none⟩), .int .i64 i] w fun e w' => (∃ v, e = .returned (.tuple #[.string ⟨(readD d i).toArray⟩, v]) ∧ ErrIs w' v (readyC d i) 0) ∧ Q w w' := by
  have HD := Lib.hid h
  have HR := Lib.hid (ready_any i h)
  have HLT := Lib.hid (ready_lt (d := d) (i := i))
  obtain ⟨rc, hrc⟩ : ∃ rc, readyC d i = rc := ⟨_, rfl⟩
  obtain ⟨D, hD⟩ : ∃ C, readD d i = C := ⟨_, rfl⟩
  have HW := Lib.hid hD
  rw [hD]
  unfold readD at HW
  rw [hrc] at HR HW HLT ⊢
  clear h hrc hD
  go_enter Tryd.func61, Tryd.ntmps61
  go_wp2_with fail
  refine HR.out.mono ?_
  rintro e w1 ⟨⟨v1, rfl, hv1⟩, hq1⟩
  have HD1 := Lib.hid (HD.out.q hq1)
  have HQ1 := Lib.hid hq1
  rcases hv1 with ⟨hc, rfl⟩ | ⟨hc, b, rfl, hf⟩
  · subst hc
    rw [if_pos rfl] at HW
    obtain ⟨k, rfl⟩ : ∃ k : Nat, i = (k : Int) := ⟨i.toNat, by have := HLT.out rfl; omega⟩
    have HKN : Hid (k < d.n) := Lib.hid (by have := HLT.out rfl; omega)
    rw [Int.toNat_natCast] at HW
    obtain ⟨wv, life, hb1, hb2⟩ := HD1.out.box
    have c2 : w1.cell? ⟨bd, 2, none⟩ = some wv := by rw [cell_of_row _ _ _ _ _ _ hb1]; rfl
    obtain ⟨A, cp, hv, hlc, hat⟩ := hb2.at
    subst hv
    obtain ⟨m, hm⟩ : ∃ m, m = d.wait.length := ⟨_, rfl⟩
    rw [← hm] at c2 hlc hw
    have HM := Lib.hid hm
    have HAT := Lib.hid hat
    have HC1 := Lib.hid c2
    have hmi : (m : Int) ≤ 1000000 := by omega
    clear hb1 hb2 hat hm hlc hq1
    go_wp2_with fail
    clear c2
    go_loopw [7] (fun i wr => ∃ j : Nat, j ≤ m ∧ i = .int .i64 ((j : Int) - 1) ∧ Hid (∀ q, j ≤ q → ∀ hq : q < d.wait.length, (d.wait[q]).1 ≠ k) ∧ Hid (Q w1 wr)) (fun i _ => (intOf i + 1).toNat)
    case atStart => exact ⟨m, by omega, by rfl, fun q h1 h2 => absurd h2 (by have := HM.out; omega), Q.refl _⟩
    case round =>
      obtain ⟨j, hj, rfl, HN, HQ⟩ := hrel
      have hcr := HQ.out.cell HC1.out
      cases j with
      | zero =>
        rw [show (((0 : Nat) : Int) - 1) = -1 from rfl]
        have g1 : decide ((0 : Int) ≤ -1) = false := by decide
        have hrd : readL d k = sub d.has (k * 64) (k * 64 + 64) := by
          unfold readL
          rw [find_none (fun q hq => HN.out q (by omega) hq)]
        have HDr := Lib.hid (HD1.out.q HQ.out)
        have hfit : k * 64 + 64 ≤ d.has.length := by rw [HD.out.ok.len]; have := HKN.out; omega
        have hcv : (convert 69 9 (.slice (some ⟨gh, k * 64, none⟩) 64 (d.has.length - k * 64))).run Tryd.prog wr = .ok (.string ⟨(sub d.has (k * 64) (k * 64 + 64)).toArray⟩) wr := conv_at HDr.out.mem hfit
        have HRD := Lib.hid hrd
        clear hcr hrd hfit
        go_wp2_with fail
        refine (sector_any k HDr.out HKN.out).mono ?_
        rintro e w5 ⟨rfl, rfl⟩
        go_wp2_with fail
        go_ret2
        exact ⟨⟨_, by rw [← HW.out, HRD.out]; rfl, .inl ⟨rfl, rfl⟩⟩, HQ1.out.trans HQ.out⟩
      | succ j =>
        rw [show (((j + 1 : Nat) : Int) - 1) = (j : Int) by omega]
        have g1 : decide ((0 : Int) ≤ (j : Int)) = true := by simp
        have hjm : j < m := hj
        have hjl : j < d.wait.length := by rw [← HM.out]; exact hj
        have hji : (j : Int) < (m : Int) := by omega
        obtain ⟨g, rfl, e0, e1⟩ := HAT.out j hjl
        have e0 := HQ.out.cell e0
        have e1 := HQ.out.cell e1
        have HPJ : Hid (∃ p, d.wait[j] = p) := ⟨_, rfl⟩
        obtain ⟨⟨a, s⟩, hp⟩ := HPJ.out
        rw [hp] at e0 e1
        simp only at e0 e1
        have HP := Lib.hid hp
        clear hp
        by_cases hak : a = k
        · subst hak
          have g2 : ((a : Int) == (a : Int)) = true := by simp
          have hrd : readL d a = s := by
            unfold readL
            rw [find_last hjl (fun q h1 hq => HN.out q h1 hq) (by rw [HP.out]), HP.out]
          have HRD := Lib.hid hrd
          clear hrd
          go_wp2_with fail
          go_ret2
          exact ⟨⟨_, by rw [← HW.out, HRD.out]; rfl, .inl ⟨rfl, rfl⟩⟩, HQ1.out.trans HQ.out⟩
        · have g2 : ((a : Int) == (k : Int)) = false := by simp; omega
          have HN2 : Hid (∀ q, j ≤ q → ∀ hq : q < d.wait.length, (d.wait[q]).1 ≠ k) := Lib.hid (fun q h1 hq => by
            by_cases e : q = j
            · subst e; rw [HP.out]; exact hak
            · exact HN.out q (by omega) hq)
          clear hak
          go_wp2_with fail
          go_roundw
          case rel => exact ⟨j, by omega, by go_num, HN2.out, HQ.out⟩
          case measure => simp [intOf]
  · rw [if_neg hc] at HW
    go_wp2_with fail
    go_ret2
    exact ⟨⟨_, by rw [← HW.out]; rfl, .inr ⟨hc, b, rfl, hf⟩⟩, HQ1.out⟩
end Go.Proofs.YtjbdjkpbkjkdpaaDoor
/- frame's sums and Pack, and the document's. -/
set_option linter.unusedVariables false
namespace Go.Proofs.YtjbdjkpbkjkdpaaDoor
open Go Go.RowKit

theorem take_snocB (l : List UInt8) (k : Nat) (h : k < l.length) : l.take (k + 1) = l.take k ++ [gB l k] := by
  rw [List.take_succ_eq_append_getElem h]; simp [gB, List.getD, h]

set_option maxHeartbeats 400000 in
theorem More_any (s : BitVec 32) (l : List UInt8) (w : World) (hl : l.length ≤ 140737488355328) :
    Calls Tryd.prog 54 #[.int .u32 (s.toNat : Int), .string ⟨l.toArray⟩] w fun e w' => e = .returned (.int .u32 ((crcMore s l).toNat : Int)) ∧ w = w' := by
  have r1 := s.isLt
  have hx : bits .xor .u32 IntKind.u32.max (s.toNat : Int) = ((bnot s).toNat : Int) := not32m s
  go_enter Tryd.func54, Tryd.ntmps54
  go_wp2
  go_loop [0, 10] (fun t i => ∃ k : Nat, k ≤ l.length ∧ i = .int .i64 k ∧ t = .int .u32 ((shL (bnot s) (l.take k)).toNat : Int)) (fun _ i => l.length - (intOf i).toNat)
  case atStart => exact ⟨0, by omega, rfl, rfl⟩
  case round =>
    obtain ⟨k, hk, rfl, rfl⟩ := hrel
    have y1 := (shL (bnot s) (l.take k)).isLt
    by_cases hlt : k < l.length
    · have HS : Hid (shL (bnot s) (l.take (k + 1)) = shB (shL (bnot s) (l.take k)) (gB l k)) := by rw [take_snocB l k hlt]; exact shL_snoc _ _ _
      clear hx
      go_wp2_with (go_at_call 70; refine (shift_any _ _ _).mono ?_; rintro e w' ⟨rfl, rfl⟩)
      go_round
      case rel => exact ⟨k + 1, by omega, by go_num, by rw [HS.out]⟩
      case measure => simp [intOf]; omega
    · obtain rfl : k = l.length := by omega
      have hy : bits .xor .u32 IntKind.u32.max ((shL (bnot s) l).toNat : Int) = ((bnot (shL (bnot s) l)).toNat : Int) := not32m _
      rw [List.take_length]
      clear hx
      go_wp2
      go_ret
      exact ⟨rfl, rfl⟩
set_option maxHeartbeats 400000 in
theorem Sum_any (l : List UInt8) (w : World) (hl : l.length ≤ 140737488355328) :
    Calls Tryd.prog 55 #[.string ⟨l.toArray⟩] w fun e w' => e = .returned (.int .u32 ((crcSum l).toNat : Int)) ∧ w = w' := by
  go_enter Tryd.func55, Tryd.ntmps55
  go_wp2_with fail
  refine (More_any 0#32 l _ hl).mono ?_
  rintro e w1 ⟨rfl, rfl⟩
  go_wp2_with fail
  go_ret
  exact ⟨rfl, rfl⟩
def hdL (e n : Int) (p : List UInt8) : List UInt8 := U32 p.length ++ (U32 n ++ (U32 (e / 4294967296) ++ U32 e))
def zL (n : Nat) : List UInt8 := List.replicate n 0
theorem length_zL (n : Nat) : (zL n).length = n := by unfold zL; simp
def packL (e n : Int) (p : List UInt8) : List UInt8 :=
  [1, 0, 0, 0] ++ (hdL e n p ++ (U32 ((crcMore (crcSum (hdL e n p)) p).toNat : Int) ++ (p ++ zL ((endsN p.length).toNat - (24 + p.length)))))
theorem crcMore_append (s : BitVec 32) (a b : List UInt8) : crcMore s (a ++ b) = crcMore (crcMore s a) b := by
  unfold crcMore; rw [shL_append, bnot_bnot]
theorem hdL_length (e n : Int) (p : List UInt8) : (hdL e n p).length = 16 := rfl

set_option maxRecDepth 100000 in
set_option maxHeartbeats 1000000 in
theorem Pack_bad (e n : Int) (p : List UInt8) (w : World) (hl : p.length ≤ 140737488355328) (h : rightB e n = false ∨ 60000 < p.length) :
    Calls Tryd.prog 34 #[.int .i64 e, .int .i64 n, .string ⟨p.toArray⟩] w fun x w' => ∃ ev, x = .returned (.tuple #[.string ⟨#[]⟩, ev]) ∧ ErrIs w' ev 1 0 ∧ Q w w' := by
  by_cases hr : rightB e n = true
  · have hp : 60000 < p.length := by rcases h with h | h; · rw [hr] at h; cases h
                                     · exact h
    go_enter Tryd.func34, Tryd.ntmps34
    go_wp2_with fail
    refine (right_any _ _ _).mono ?_
    rintro x w1 ⟨rfl, rfl⟩
    rw [hr]
    go_wp2_with fail
    refine (fault_any _ _ _).mono ?_
    rintro e w1 ⟨⟨b, rfl, hf⟩, hq1⟩
    go_wp2_with fail
    go_ret2
    exact ⟨_, rfl, .inr ⟨by decide, b, rfl, hf⟩, hq1⟩
  · have hr : rightB e n = false := by simpa using hr
    go_enter Tryd.func34, Tryd.ntmps34
    go_wp2_with fail
    refine (right_any _ _ _).mono ?_
    rintro x w1 ⟨rfl, rfl⟩
    rw [hr]
    go_wp2_with fail
    refine (fault_any _ _ _).mono ?_
    rintro e w1 ⟨⟨b, rfl, hf⟩, hq1⟩
    go_wp2_with fail
    go_ret2
    exact ⟨_, rfl, .inr ⟨by decide, b, rfl, hf⟩, hq1⟩

theorem right_spec {e n : Int} (h : rightB e n = true) : 0 ≤ e ∧ e ≤ 4611686018427387904 ∧ 0 ≤ n ∧ n ≤ 4294967295 := of_decide_eq_true h
theorem repeat_zero (c : Nat) : Lib.repeatL [0] c = zL c := by
  unfold zL
  induction c with
  | zero => rfl
  | succ c ih => rw [Lib.repeatL, ih]; rfl

set_option maxRecDepth 100000 in
set_option maxHeartbeats 1000000 in
theorem Pack_ok (e n : Int) (p : List UInt8) (w : World) (hl : p.length ≤ 60000) (h : rightB e n = true) :
    Calls Tryd.prog 34 #[.int .i64 e, .int .i64 n, .string ⟨p.toArray⟩] w fun x w' => x = .returned (.tuple #[.string ⟨(packL e n p).toArray⟩, .nilIface]) ∧ Q w w' := by
  obtain ⟨e0, e1, n0, n1⟩ := right_spec h
  have l1 : ∀ k, (U32 k).length = 4 := length_U32
  go_enter Tryd.func34, Tryd.ntmps34
  go_wp2_with fail
  refine (right_any _ _ _).mono ?_
  rintro x w1 ⟨rfl, rfl⟩
  rw [h]
  go_wp2_with fail
  refine (u32_any _ _ (by omega) (by omega)).mono ?_
  rintro x w1 ⟨rfl, hq1⟩
  go_wp2_with fail
  refine (u32_any _ _ (by omega) (by omega)).mono ?_
  rintro x w2 ⟨rfl, hq2⟩
  go_wp2_with fail
  refine (u32_any _ _ (by omega) (by omega)).mono ?_
  rintro x w3 ⟨rfl, hq3⟩
  go_wp2_with fail
  refine (u32_any _ _ (by omega) (by omega)).mono ?_
  rintro x w4 ⟨rfl, hq4⟩
  go_wp2_with fail
  have hH : hdL e n p = U32 p.length ++ (U32 n ++ (U32 (e / 4294967296) ++ U32 e)) := rfl
  rw [← hH]
  have HH := Lib.hid hH
  clear hH
  have lh := hdL_length e n p
  have LH := Lib.hid lh
  clear lh
  refine (Sum_any _ _ (by rw [LH.out]; omega)).mono ?_
  rintro x w5 ⟨rfl, rfl⟩
  go_wp2_with fail
  refine (More_any _ _ _ (by omega)).mono ?_
  rintro x w5 ⟨rfl, rfl⟩
  have LH := LH.out
  have c1 := (crcMore (crcSum (hdL e n p)) p).isLt
  have c2 : 0 ≤ ((crcMore (crcSum (hdL e n p)) p).toNat : Int) := by omega
  have c3 : ((crcMore (crcSum (hdL e n p)) p).toNat : Int) < 4294967296 := by omega
  go_wp2_with fail
  refine (u32_any _ _ (by omega) (by omega)).mono ?_
  rintro x w6 ⟨rfl, hq6⟩
  go_wp2_with fail
  refine (ends_any _ _ (by omega) (by omega)).mono ?_
  rintro x w7 ⟨rfl, rfl⟩
  have hE : endsN p.length = (endsN p.length).toNat := by unfold endsN; omega
  have hE2 : 24 + p.length ≤ (endsN p.length).toNat := by unfold endsN; omega
  have hE3 : (endsN p.length).toNat ≤ 24 + p.length + 63 := by unfold endsN; omega
  rw [hE]
  generalize (endsN p.length).toNat = E at hE hE2 hE3
  have HE := Lib.hid hE
  clear hE
  go_wp2_with fail
  rw [show ((E : Int) - (16 + (4 + (p.length : Int)) + 1 + 1 + 1 + 1)) = ((E - (24 + p.length) : Nat) : Int) from by omega]
  refine (Tryd.strings_Repeat ⟨[(0 : UInt8)].toArray⟩ (E - (24 + p.length)) _ (by omega) (by simp [ByteArray.size]; omega)).mono ?_
  rintro x w7 ⟨rfl, hq7⟩
  have hz : Lib.repeatL (ByteArray.mk [(0 : UInt8)].toArray).data.toList (E - (24 + p.length)) = zL (E - (24 + p.length)) := repeat_zero _
  rw [hz]
  have hlz : (zL (E - (24 + p.length))).length ≤ 63 := by rw [length_zL]; omega
  generalize hZ : zL (E - (24 + p.length)) = Z at hlz
  have HZ := Lib.hid hZ
  clear hZ hz
  go_wp2_with fail
  go_ret2
  refine ⟨ret_eq ?_, ((((hq1.trans hq2).trans hq3).trans hq4).trans hq6).trans hq7⟩
  have e1 : packL e n p = [1, 0, 0, 0] ++ (hdL e n p ++ (U32 ((crcMore (crcSum (hdL e n p)) p).toNat : Int) ++ (p ++ Z))) := by
    unfold packL; rw [HE.out, Int.toNat_natCast, HZ.out]
  rw [e1]
  simp
end Go.Proofs.YtjbdjkpbkjkdpaaDoor
/- the document's Pack. -/
set_option linter.unusedVariables false
namespace Go.Proofs.YtjbdjkpbkjkdpaaDoor
open Go Go.RowKit

theorem rightB_false {e n : Int} (h : rightB e n = false) : e < 0 ∨ 4611686018427387904 < e ∨ n < 0 ∨ 4294967295 < n := by
  have := of_decide_eq_false h; omega

theorem conv_zeros (w : World) (d cap : Nat) :
    (convert 69 9 (.slice (some ⟨w.heap.size, 0, none⟩) d cap)).run Tryd.prog (w.alloc (.cells (madeCells #[.int .u8 0] d) 5)) =
      .ok (.string ⟨(zL d).toArray⟩) (w.alloc (.cells (madeCells #[.int .u8 0] d) 5)) := by
  have h := conv_bytes (P := Tryd.prog) w 69 9 5 cap (List.replicate d 0) Tryd.underlying69 Tryd.underlying5 Tryd.underlying9 (by intro n hn; have := List.eq_of_mem_replicate hn; omega)
  have e1 : (madeCells #[.int .u8 0] d) = ((List.replicate d (0 : Int)).map (Value.int .u8)).toArray := by
    rw [← Array.toList_inj, toList_madeCells_one]; simp
  rw [e1]
  simpa [byteOf, zL] using h

end Go.Proofs.YtjbdjkpbkjkdpaaDoor
/- A new disk; texts of bytes 0. -/
set_option linter.unusedVariables false
set_option linter.unusedSimpArgs false
namespace Go.Proofs.YtjbdjkpbkjkdpaaDoor
open Go Go.RowKit
theorem make_z (n : Nat) (w : World) (hn : n ≤ 281474976710656) :
    (Instr.makeSlice 69 (.int .i64 (n : Int)) (.int .i64 (n : Int))).run Tryd.prog w = .ok (.slice (some ⟨w.heap.size, 0, none⟩) n n) (w.alloc (.cells (madeCells #[.int .u8 0] n) 5)) := by
  obtain ⟨i, hi, hz, hsz, hby⟩ := info_parts info_u8
  have h := run_make (P := Tryd.prog) w 69 5 i _ Tryd.underlying69 hi hz .i64 .i64 (n : Int) (n : Int) (by omega) (by omega) (by rw [hby]; omega) (by omega)
  rw [hsz, Int.toNat_natCast, Nat.mul_one] at h
  exact h
theorem made_z (n : Nat) : madeCells #[.int .u8 0] n = arrB (zL n) := by
  rw [← Array.toList_inj, toList_madeCells_one]
  simp [arrB, zL, u8V]
set_option maxHeartbeats 400000 in
theorem text_any (n : Nat) (w : World) (hn : n ≤ 281474976710656) : Calls Tryd.prog 19 #[.int .i64 (n : Int)] w fun e w' => e = .returned (.string ⟨(zL n).toArray⟩) ∧ Q w w' := by
  have hmk := make_z n w hn
  have hcv := conv_zeros w n n
  have hq : Q w (w.alloc (.cells (madeCells #[.int .u8 0] n) 5)) := (Q.refl _).alloc _
  obtain ⟨W, hW⟩ : ∃ W, w.alloc (.cells (madeCells #[.int .u8 0] n) 5) = W := ⟨_, rfl⟩
  rw [hW] at hmk hcv hq
  clear hW
  go_enter Tryd.func19, Tryd.ntmps19
  go_wp2_with fail
  go_ret
  exact ⟨rfl, hq⟩
def blankL : List UInt8 := zL 64
set_option maxHeartbeats 400000 in
theorem blank_any (w : World) : Calls Tryd.prog 50 #[] w fun e w' => e = .returned (.string ⟨blankL.toArray⟩) ∧ Q w w' := by
  have hmk : (Instr.makeSlice 69 (.int .i64 64) (.int .i64 64)).run Tryd.prog w = _ := make_z 64 w (by omega)
  have hcv := conv_zeros w 64 64
  have hq : Q w (w.alloc (.cells (madeCells #[.int .u8 0] 64) 5)) := (Q.refl _).alloc _
  obtain ⟨W, hW⟩ : ∃ W, w.alloc (.cells (madeCells #[.int .u8 0] 64) 5) = W := ⟨_, rfl⟩
  rw [hW] at hmk hcv hq
  clear hW
  unfold blankL
  go_enter Tryd.func50, Tryd.ntmps50
  go_wp2_with fail
  go_ret
  exact ⟨rfl, hq⟩
def newD : DskS := ⟨zL 4096, [], false, -1, false⟩
theorem newD_len : newD.has.length = 4096 := by unfold newD; simp only [length_zL]
theorem newD_n : newD.n = 64 := by unfold DskS.n newD; simp only [length_zL]
theorem newD_ok : newD.Ok := ⟨by rw [newD_n]; unfold newD; simp only [length_zL], by rw [newD_n]; omega, ⟨by unfold newD; simp only; omega, by unfold newD; simp only; omega⟩, fun p hp => by cases hp⟩
set_option maxHeartbeats 400000 in
theorem NewPower_any (w : World) : Calls Tryd.prog 29 #[] w fun e w' => e = .returned (.pointer (some ⟨w.heap.size, 0, none⟩)) ∧ w'.heap[w.heap.size]? = some (.cells #[.bool false, .int .i64 (-1), .int .i64 0] 71 (0, 0)) ∧ Q w w' := by
  go_enter Tryd.func29, Tryd.ntmps29
  go_wp2_with fail
  go_ret
  exact ⟨rfl, (MapKept.heap_alloc w _).1, (Q.refl _).alloc _⟩
set_option maxHeartbeats 1000000 in
theorem New_any (bp : Nat) (w0 w : World) (hp : w.heap[bp]? = some (.cells #[.bool false, .int .i64 (-1), .int .i64 0] 71 (0, 0))) (h0 : w0.heap.size ≤ bp) (h1 : w0.heap.size ≤ w.heap.size) :
    Calls Tryd.prog 30 #[.pointer (some ⟨bp, 0, none⟩), .int .i64 64] w fun e w' => (∃ bd gh, e = .returned (.tuple #[.pointer (some ⟨bd, 0, none⟩), .nilIface]) ∧ DAt w0 w' bd bp gh newD) ∧ Q w w' := by
  have hmk : (Instr.makeSlice 69 (.int .i64 4096) (.int .i64 4096)).run Tryd.prog w = _ := make_z 4096 w (by omega)
  rw [made_z] at hmk
  have hm : (w.alloc (.cells (arrB (zL 4096)) 5)).heap[w.heap.size]? = some (.cells (arrB (zL 4096)) 5 (0, 0)) := (MapKept.heap_alloc w _).1
  have hq : Q w (w.alloc (.cells (arrB (zL 4096)) 5)) := (Q.refl _).alloc _
  obtain ⟨g, hg⟩ : ∃ g, w.heap.size = g := ⟨_, rfl⟩
  rw [hg] at hmk hm
  obtain ⟨W, hW⟩ : ∃ W, w.alloc (.cells (arrB (zL 4096)) 5) = W := ⟨_, rfl⟩
  rw [hW] at hmk hm hq
  have hb : (W.alloc (.cells #[.pointer (some ⟨bp, 0, none⟩), .slice (some ⟨g, 0, none⟩) 4096 4096, .slice none 0 0, .bool false, .int .i64 0] 74)).heap[W.heap.size]? = some (.cells #[.pointer (some ⟨bp, 0, none⟩), .slice (some ⟨g, 0, none⟩) 4096 4096, .slice none 0 0, .bool false, .int .i64 0] 74 (0, 0)) := (MapKept.heap_alloc W _).1
  have hq2 : Q W (W.alloc (.cells #[.pointer (some ⟨bp, 0, none⟩), .slice (some ⟨g, 0, none⟩) 4096 4096, .slice none 0 0, .bool false, .int .i64 0] 74)) := (Q.refl _).alloc _
  have hD : DAt w0 (W.alloc (.cells #[.pointer (some ⟨bp, 0, none⟩), .slice (some ⟨g, 0, none⟩) 4096 4096, .slice none 0 0, .bool false, .int .i64 0] 74)) W.heap.size bp g newD :=
    ⟨⟨.slice none 0 0, 0, (by rw [newD_len]; exact hb), OwnW.nil _ _⟩, ⟨0, hq2.block (hq.block hp), by omega, by omega⟩, hq2.block hm, by have := hq.size; omega, h0, by omega, newD_ok⟩
  have HD := Lib.hid hD
  have HQ := Lib.hid (hq.trans hq2)
  clear hW hg hb hq hq2 hD hm hp
  go_enter Tryd.func30, Tryd.ntmps30
  go_wp2_with fail
  go_ret2
  exact ⟨⟨_, g, rfl, HD.out⟩, HQ.out⟩
set_option maxHeartbeats 1000000 in
theorem rack_any (w : World) : Calls Tryd.prog 9 #[] w fun e w' => (∃ bd bp gh, e = .returned (.tuple #[.pointer (some ⟨bp, 0, none⟩), .pointer (some ⟨bd, 0, none⟩)]) ∧ DAt w w' bd bp gh newD) ∧ Q w w' := by
  go_enter Tryd.func9, Tryd.ntmps9
  go_wp2_with fail
  refine (NewPower_any w).mono ?_
  rintro e w1 ⟨rfl, hp, hq⟩
  obtain ⟨bp, hbp⟩ : ∃ b, w.heap.size = b := ⟨_, rfl⟩
  rw [hbp] at hp ⊢
  have HN := Lib.hid (New_any bp w w1 hp (by omega) hq.size)
  clear hp hbp
  go_wp2_with fail
  refine HN.out.mono ?_
  rintro e w2 ⟨⟨bd, gh, rfl, hd⟩, hq2⟩
  have HD := Lib.hid hd
  clear hd
  go_wp2_with fail
  go_ret2
  exact ⟨⟨bd, bp, gh, rfl, HD.out⟩, hq.trans hq2⟩
end Go.Proofs.YtjbdjkpbkjkdpaaDoor
/- A journal: what lies in memory; its sectors' numbers; write. -/
set_option linter.unusedVariables false
set_option linter.unusedSimpArgs false
namespace Go.Proofs.YtjbdjkpbkjkdpaaDoor
open Go Go.RowKit
/-- A journal, plain, but for its disk. -/
structure JrnS where
  first : Nat
  half : Nat
  second : Bool
  epoch : Nat
  many : Nat
  next : Nat
  closed : Bool
def JAt (w : World) (bj bd : Nat) (j : JrnS) : Prop := w.heap[bj]? = some (.cells #[.pointer (some ⟨bd, 0, none⟩), .int .i64 (j.first : Int), .int .i64 (j.half : Int), .bool j.second, .int .i64 (j.epoch : Int), .int .i64 (j.many : Int), .int .i64 (j.next : Int), .bool j.closed] 59 (0, 0))
theorem JAt.q {w w' : World} {bj bd : Nat} {j : JrnS} (h : JAt w bj bd j) (hq : Q w w') : JAt w' bj bd j := hq.block h
theorem JAt.k {w0 w w' : World} {S : List Nat} {bj bd : Nat} {j : JrnS} (h : JAt w bj bd j) (hk : K w0 S w w') (hs : bj ∉ S) : JAt w' bj bd j := hk.heap hs (by decide) h
theorem JAt.c0 {w : World} {bj bd : Nat} {j : JrnS} (h : JAt w bj bd j) : w.cell? ⟨bj, 0, none⟩ = some (.pointer (some ⟨bd, 0, none⟩)) := by rw [cell_of_row _ _ _ _ _ _ h]; rfl
theorem JAt.c1 {w : World} {bj bd : Nat} {j : JrnS} (h : JAt w bj bd j) : w.cell? ⟨bj, 1, none⟩ = some (.int .i64 (j.first : Int)) := by rw [cell_of_row _ _ _ _ _ _ h]; rfl
theorem JAt.c2 {w : World} {bj bd : Nat} {j : JrnS} (h : JAt w bj bd j) : w.cell? ⟨bj, 2, none⟩ = some (.int .i64 (j.half : Int)) := by rw [cell_of_row _ _ _ _ _ _ h]; rfl
theorem JAt.c3 {w : World} {bj bd : Nat} {j : JrnS} (h : JAt w bj bd j) : w.cell? ⟨bj, 3, none⟩ = some (.bool j.second) := by rw [cell_of_row _ _ _ _ _ _ h]; rfl
theorem JAt.c4 {w : World} {bj bd : Nat} {j : JrnS} (h : JAt w bj bd j) : w.cell? ⟨bj, 4, none⟩ = some (.int .i64 (j.epoch : Int)) := by rw [cell_of_row _ _ _ _ _ _ h]; rfl
theorem JAt.c5 {w : World} {bj bd : Nat} {j : JrnS} (h : JAt w bj bd j) : w.cell? ⟨bj, 5, none⟩ = some (.int .i64 (j.many : Int)) := by rw [cell_of_row _ _ _ _ _ _ h]; rfl
theorem JAt.c6 {w : World} {bj bd : Nat} {j : JrnS} (h : JAt w bj bd j) : w.cell? ⟨bj, 6, none⟩ = some (.int .i64 (j.next : Int)) := by rw [cell_of_row _ _ _ _ _ _ h]; rfl
theorem JAt.c7 {w : World} {bj bd : Nat} {j : JrnS} (h : JAt w bj bd j) : w.cell? ⟨bj, 7, none⟩ = some (.bool j.closed) := by rw [cell_of_row _ _ _ _ _ _ h]; rfl
theorem JAt.fz {w : World} {bj bd : Nat} {j : JrnS} (h : JAt w bj bd j) (i : Nat) : w.frozen? ⟨bj, i, none⟩ = false := frozen_of_row w bj i _ _ h
/-- The journal on its disk. -/
structure JD (w0 w : World) (bj bd bp gh : Nat) (j : JrnS) (d : DskS) : Prop where
  j : JAt w bj bd j
  d : DAt w0 w bd bp gh d
  n : w0.heap.size ≤ bj
theorem JD.q {w0 w w' : World} {bj bd bp gh : Nat} {j : JrnS} {d : DskS} (h : JD w0 w bj bd bp gh j d) (hq : Q w w') : JD w0 w' bj bd bp gh j d := ⟨h.j.q hq, h.d.q hq, h.n⟩
theorem JD.up {w0 w w' : World} {bj bd bp gh : Nat} {j : JrnS} {d d' : DskS} (h : JD w0 w bj bd bp gh j d) (hk : K w0 [] w w') (hd : DAt w0 w' bd bp gh d') : JD w0 w' bj bd bp gh j d' := ⟨h.j.k hk (by simp), hd, h.n⟩
def atJ (j : JrnS) (s : Bool) (k : Nat) : Nat := j.first + (if s then j.half else 0) + k
set_option maxHeartbeats 400000 in
theorem at_any {w : World} {bj bd : Nat} {j : JrnS} (h : JAt w bj bd j) (s : Bool) (k : Nat) (hb : j.first + j.half + k ≤ 1000000) :
    Calls Tryd.prog 49 #[.pointer (some ⟨bj, 0, none⟩), .bool s, .int .i64 (k : Int)] w fun e w' => e = .returned (.int .i64 (atJ j s k : Int)) ∧ w = w' := by
  have c1 := h.c1
  have c2 := h.c2
  unfold atJ
  have b1 : (j.first : Int) + (j.half : Int) + (k : Int) ≤ 1000000 := by omega
  clear h
  go_enter Tryd.func49, Tryd.ntmps49
  cases s with
  | true =>
    go_wp2_with fail
    go_ret
    exact ⟨ret_int (by first | omega | (simp; omega)), rfl⟩
  | false =>
    go_wp2_with fail
    go_ret
    exact ⟨ret_int (by first | omega | simp), rfl⟩
def unmarkL (s : List UInt8) : List UInt8 := 0 :: sub s 1 s.length
set_option maxHeartbeats 400000 in
theorem unmarked_any (s : List UInt8) (w : World) (h0 : 1 ≤ s.length) (hl : s.length ≤ 10000000) :
    Calls Tryd.prog 59 #[.string ⟨s.toArray⟩] w fun e w' => e = .returned (.string ⟨(unmarkL s).toArray⟩) ∧ w = w' := by
  unfold unmarkL
  go_enter Tryd.func59, Tryd.ntmps59
  go_wp2_with fail
  go_ret
  exact ⟨rfl, rfl⟩
/-- Sectors laid down one behind the other: what is left of the disk, the error. -/
def wrJ (j : JrnS) (sec : Bool) : Nat → Nat → List UInt8 → DskS → DskS × Int
  | 0, _, _, d => (d, 0)
  | m + 1, k, s, d => if writeC d (atJ j sec k) (sub s 0 64) = 0 then wrJ j sec m (k + 1) (sub s 64 s.length) (writeD d (atJ j sec k) (sub s 0 64)) else (writeD d (atJ j sec k) (sub s 0 64), writeC d (atJ j sec k) (sub s 0 64))
theorem write_wait (d : DskS) (i : Int) (s : List UInt8) : (writeD d i s).wait.length ≤ d.wait.length + 1 := by
  unfold writeD
  split
  · omega
  · split
    · rw [(actD_same d).2.1]; omega
    · simp
set_option maxRecDepth 100000 in
set_option maxHeartbeats 4000000 in
theorem wr_any {w0 w : World} {bj bd bp gh : Nat} {j : JrnS} {d : DskS} (sec : Bool) (k m : Nat) (s : List UInt8) (h : JD w0 w bj bd bp gh j d) (hs : s.length = 64 * m) (hm : m ≤ 100000) (hb : j.first + j.half + k + m ≤ 1000000) (hw : d.wait.length + m ≤ 1000000) (h0 : w0.heap.size ≤ w.heap.size) :
    Calls Tryd.prog 58 #[.pointer (some ⟨bj, 0, none⟩), .bool sec, .int .i64 (k : Int), .string ⟨s.toArray⟩] w fun e w' => (∃ v, e = .returned v ∧ ErrIs w' v (wrJ j sec m k s d).2 0) ∧ JD w0 w' bj bd bp gh j (wrJ j sec m k s d).1 ∧ K w0 [] w w' := by
  have HJ := Lib.hid h
  clear h
  go_enter Tryd.func58, Tryd.ntmps58
  go_wp2_with fail
  go_loopw [2, 3] (fun kv sv wr => ∃ (m' k' : Nat) (s' : List UInt8) (d' : DskS), kv = .int .i64 (k' : Int) ∧ sv = .string ⟨s'.toArray⟩ ∧ s'.length = 64 * m' ∧ m' ≤ 100000 ∧ j.first + j.half + k' + m' ≤ 1000000 ∧ d'.wait.length + m' ≤ 1000000 ∧ Hid (wrJ j sec m k s d = wrJ j sec m' k' s' d') ∧ Hid (JD w0 wr bj bd bp gh j d') ∧ Hid (K w0 [] w wr)) (fun _ sv _ => match sv with | .string b => b.size | _ => 0)
  case atStart => exact ⟨m, k, s, d, rfl, rfl, hs, hm, hb, hw, rfl, HJ.out, K.q (Q.refl _)⟩
  case round =>
    obtain ⟨m', k', s', d', rfl, rfl, hs', hm', hb', hw', HE, HD, HK⟩ := hrel
    have h0r : w0.heap.size ≤ wr.heap.size := Nat.le_trans h0 HK.out.size
    cases m' with
    | zero =>
      have g1 : decide (0 < s'.length) = false := by rw [hs']; rfl
      have HE2 : Hid (wrJ j sec m k s d = (d', 0)) := Lib.hid HE.out
      clear hs' hb' hw'
      go_wp2_with fail
      go_ret
      exact ⟨⟨.nilIface, rfl, by rw [HE2.out]; exact .inl ⟨rfl, rfl⟩⟩, by rw [HE2.out]; exact HD.out, HK.out⟩
    | succ m' =>
      have g1 : decide (0 < s'.length) = true := by simp; omega
      have hsl : 64 ≤ s'.length := by omega
      have hsb : s'.length ≤ 6400000 := by omega
      have HS := Lib.hid hs'
      clear hs'
      go_upto_region 3 with (fail)
      have c0 := HD.out.j.c0
      have k0 : ∀ m : QW wr, m.val.cell? ⟨bj, 0, none⟩ = some (.pointer (some ⟨bd, 0, none⟩)) := fun m => m.cell c0
      have HAT := Lib.hid (fun m : QW wr => at_any (HD.out.j.q m.le) sec k' (by omega))
      clear c0
      refine wp_region_q_tail 10 (by kernel_rfl) (by kernel_rfl) ?_
      simp only [List.take_succ_cons, List.take_zero, List.drop_succ_cons, List.drop_zero]
      (repeat (go_big_quiet_step ((go_at_call 49; exact calls_qs (HAT.out _)))))
      refine wpQuiet_nil ?_
      rintro wa ⟨ma, hma⟩
      have hqa : Q wr wa := by rw [hma]; exact ma.le
      have HDa := Lib.hid (HD.out.q hqa)
      have HKa := Lib.hid (HK.out.trans (K.q hqa))
      have h0a : w0.heap.size ≤ wa.heap.size := Nat.le_trans h0r hqa.size
      have hl64 : (sub s' 0 64).length = 64 := by rw [length_sub]; omega
      have HWR := Lib.hid (Write_any (atJ j sec k' : Int) (sub s' 0 64) HDa.out.d (by rw [hl64]; omega) (by omega) h0a)
      clear hma ma hqa k0 HAT hl64 HD HK
      go_wp2_with fail
      refine HWR.out.mono ?_
      rintro e w4 ⟨⟨v, rfl, hv⟩, hd4, hk4⟩
      have HD4 := Lib.hid (HDa.out.up hk4 hd4)
      have HK4 := Lib.hid (HKa.out.trans hk4)
      have hwl := write_wait d' (atJ j sec k' : Int) (sub s' 0 64)
      obtain ⟨D4, hD4⟩ : ∃ D, writeD d' (atJ j sec k') (sub s' 0 64) = D := ⟨_, rfl⟩
      obtain ⟨C4, hC4⟩ : ∃ D, writeC d' (atJ j sec k') (sub s' 0 64) = D := ⟨_, rfl⟩
      have HE4 : Hid (wrJ j sec m k s d = if C4 = 0 then wrJ j sec m' (k' + 1) (sub s' 64 s'.length) D4 else (D4, C4)) := Lib.hid (by rw [HE.out, ← hD4, ← hC4]; rfl)
      rw [hD4] at HD4 hwl
      rw [hC4] at hv
      have hsl2 : (sub s' 64 s'.length).length = 64 * m' := by rw [length_sub, HS.out]; omega
      have HS2 := Lib.hid hsl2
      clear hd4 hk4 hD4 hC4 HWR HE hsl2
      rcases hv with ⟨hc, rfl⟩ | ⟨hc, b, rfl, hf⟩
      · rw [if_pos hc] at HE4
        go_wp2_with fail
        go_roundw
        case rel => exact ⟨m', k' + 1, sub s' 64 s'.length, D4, by go_num, rfl, HS2.out, by omega, by omega, by omega, HE4.out, HD4.out, HK4.out⟩
        case measure =>
          show (sub s' 64 s'.length).toArray.size < s'.toArray.size
          rw [List.size_toArray, List.size_toArray, length_sub]; omega
      · rw [if_neg hc] at HE4
        go_wp2_with fail
        go_ret
        exact ⟨⟨_, rfl, by rw [HE4.out]; exact .inr ⟨hc, b, rfl, hf⟩⟩, by rw [HE4.out]; exact HD4.out, HK4.out⟩
end Go.Proofs.YtjbdjkpbkjkdpaaDoor
/- A journal's clean and lay. -/
set_option linter.unusedVariables false
set_option linter.unusedSimpArgs false
namespace Go.Proofs.YtjbdjkpbkjkdpaaDoor
open Go Go.RowKit
def cleanJ (j : JrnS) (sec : Bool) (k : Nat) (d : DskS) : DskS × Int := if j.half ≤ k then (d, 0) else (writeD d (atJ j sec k) blankL, writeC d (atJ j sec k) blankL)
set_option maxRecDepth 100000 in
set_option maxHeartbeats 4000000 in
theorem clean_any {w0 w : World} {bj bd bp gh : Nat} {j : JrnS} {d : DskS} (sec : Bool) (k : Nat) (h : JD w0 w bj bd bp gh j d) (hb : j.first + j.half + k ≤ 1000000) (hw : d.wait.length ≤ 1000000) (h0 : w0.heap.size ≤ w.heap.size) :
    Calls Tryd.prog 32 #[.pointer (some ⟨bj, 0, none⟩), .bool sec, .int .i64 (k : Int)] w fun e w' => (∃ v, e = .returned v ∧ ErrIs w' v (cleanJ j sec k d).2 0) ∧ JD w0 w' bj bd bp gh j (cleanJ j sec k d).1 ∧ K w0 [] w w' := by
  have HJ := Lib.hid h
  have c2 := h.j.c2
  clear h
  unfold cleanJ
  by_cases hk : j.half ≤ k
  · have g1 : decide (j.half ≤ k) = true := decide_eq_true hk
    rw [if_pos hk]
    clear hk
    go_enter Tryd.func32, Tryd.ntmps32
    go_wp2_with fail
    go_ret
    exact ⟨⟨.nilIface, rfl, .inl ⟨rfl, rfl⟩⟩, HJ.out, K.q (Q.refl _)⟩
  · have g1 : decide (j.half ≤ k) = false := decide_eq_false hk
    rw [if_neg hk]
    clear hk
    go_enter Tryd.func32, Tryd.ntmps32
    go_upto_region 3 with (fail)
    have k0 : ∀ m : QW w, m.val.cell? ⟨bj, 0, none⟩ = some (.pointer (some ⟨bd, 0, none⟩)) := fun m => m.cell HJ.out.j.c0
    have HAT := Lib.hid (fun m : QW w => at_any (HJ.out.j.q m.le) sec k hb)
    clear c2
    refine wp_region_q_tail 9 (by kernel_rfl) (by kernel_rfl) ?_
    simp only [List.take_succ_cons, List.take_zero, List.drop_succ_cons, List.drop_zero]
    (repeat (go_big_quiet_step (first | (go_at_call 49; exact calls_qs (HAT.out _)) | (go_at_call 50; exact calls_q (blank_any _)))))
    refine wpQuiet_nil ?_
    rintro wa ⟨ma, hma⟩
    have hqa : Q w wa := by rw [hma]; exact ma.le
    have HDa := Lib.hid (HJ.out.q hqa)
    have h0a : w0.heap.size ≤ wa.heap.size := Nat.le_trans h0 hqa.size
    have HQ := Lib.hid hqa
    have HWR := Lib.hid (Write_any (atJ j sec k : Int) blankL HDa.out.d (by unfold blankL; rw [length_zL]; omega) hw h0a)
    clear hma ma hqa k0 HAT
    go_wp2_with fail
    refine HWR.out.mono ?_
    rintro e w4 ⟨⟨v, rfl, hv⟩, hd4, hk4⟩
    have HD4 := Lib.hid (HDa.out.up hk4 hd4)
    have HK4 := Lib.hid ((K.q HQ.out).trans hk4)
    clear hd4 hk4 HWR
    go_wp2_with fail
    go_ret
    exact ⟨⟨v, rfl, hv⟩, HD4.out, HK4.out⟩
theorem clean_wait (j : JrnS) (sec : Bool) (k : Nat) (d : DskS) : (cleanJ j sec k d).1.wait.length ≤ d.wait.length + 1 := by
  unfold cleanJ; split
  · exact Nat.le_succ _
  · exact write_wait _ _ _
theorem wr_wait (j : JrnS) (sec : Bool) (m : Nat) : ∀ (k : Nat) (s : List UInt8) (d : DskS), (wrJ j sec m k s d).1.wait.length ≤ d.wait.length + m := by
  induction m with
  | zero => intro k s d; exact Nat.le_refl _
  | succ m ih =>
    intro k s d
    unfold wrJ
    have h1 := write_wait d (atJ j sec k) (sub s 0 64)
    split
    · have := ih (k + 1) (sub s 64 s.length) (writeD d (atJ j sec k) (sub s 0 64)); omega
    · simp only; omega
def flushR (d : DskS) : DskS × Int := (flushD d, flushC d)
theorem flush_wait (d : DskS) : (flushD d).wait.length ≤ d.wait.length := by
  unfold flushD; split
  · omega
  · split
    · rw [(actD_same d).2.1]; omega
    · simp
/-- One step behind another, if it went well. -/
def bindE (r : DskS × Int) (f : DskS → DskS × Int) : DskS × Int := if r.2 = 0 then f r.1 else r
theorem bindE_ok {r : DskS × Int} {f : DskS → DskS × Int} (h : r.2 = 0) : bindE r f = f r.1 := if_pos h
theorem bindE_no {r : DskS × Int} {f : DskS → DskS × Int} (h : r.2 ≠ 0) : bindE r f = r := if_neg h
def layJ (j : JrnS) (sec : Bool) (k m : Nat) (s : List UInt8) (d : DskS) : DskS × Int :=
  bindE (wrJ j sec m k (unmarkL s) d) fun d1 => bindE (cleanJ j sec (k + m) d1) fun d2 => bindE (flushR d2) fun d3 => bindE (wrJ j sec 1 k (sub s 0 64) d3) flushR
theorem unmarkL_len {s : List UInt8} (h : 1 ≤ s.length) : (unmarkL s).length = s.length := by unfold unmarkL; rw [List.length_cons, length_sub]; omega
set_option maxRecDepth 100000 in
set_option maxHeartbeats 4000000 in
theorem lay_any {w0 w : World} {bj bd bp gh : Nat} {j : JrnS} {d : DskS} (sec : Bool) (k m : Nat) (s : List UInt8) (h : JD w0 w bj bd bp gh j d) (hs : s.length = 64 * m) (hm : 1 ≤ m ∧ m ≤ 100000) (hb : j.first + j.half + k + m ≤ 1000000) (hw : d.wait.length + m ≤ 999990) (h0 : w0.heap.size ≤ w.heap.size) :
    Calls Tryd.prog 35 #[.pointer (some ⟨bj, 0, none⟩), .bool sec, .int .i64 (k : Int), .string ⟨s.toArray⟩] w fun e w' => (∃ v, e = .returned v ∧ ErrIs w' v (layJ j sec k m s d).2 0) ∧ JD w0 w' bj bd bp gh j (layJ j sec k m s d).1 ∧ K w0 [] w w' := by
  have HJ := Lib.hid h
  have hsl : 1 ≤ s.length ∧ s.length ≤ 6400000 := by omega
  have h64 : 64 ≤ s.length := by omega
  have hul := unmarkL_len hsl.1
  have HU := Lib.hid (hul.trans hs)
  have hdv : (s.length : Int) / 64 = (m : Int) := by omega
  have HS := Lib.hid hs
  obtain ⟨R, hR⟩ : ∃ R, layJ j sec k m s d = R := ⟨_, rfl⟩
  have HR := Lib.hid hR
  rw [hR]
  unfold layJ at HR
  clear h hul hs hR
  go_enter Tryd.func35, Tryd.ntmps35
  go_wp2_with fail
  refine (unmarked_any s w (by omega) (by omega)).mono ?_
  rintro e w1 ⟨rfl, rfl⟩
  go_wp2_with fail
  refine (wr_any sec k m (unmarkL s) HJ.out HU.out hm.2 (by omega) (by omega) h0).mono ?_
  rintro e w2 ⟨⟨v, rfl, hv⟩, hd, hk⟩
  have hwl := wr_wait j sec m k (unmarkL s) d
  obtain ⟨r1, hr1⟩ : ∃ r, wrJ j sec m k (unmarkL s) d = r := ⟨_, rfl⟩
  rw [hr1] at hv hd hwl HR
  have HD2 := Lib.hid hd
  have HK2 := Lib.hid hk
  have h02 := Nat.le_trans h0 hk.size
  clear hd hk hr1 HJ
  rcases hv with ⟨hc, rfl⟩ | ⟨hc, b, rfl, hf⟩
  case inr =>
    rw [bindE_no hc] at HR
    go_wp2_with fail
    go_ret
    exact ⟨⟨_, rfl, by rw [← HR.out]; exact .inr ⟨hc, b, rfl, hf⟩⟩, by rw [← HR.out]; exact HD2.out, HK2.out⟩
  rw [bindE_ok hc] at HR
  clear hc
  go_wp2_with fail
  refine (clean_any sec (k + m) HD2.out (by omega) (by omega) h02).mono ?_
  rintro e w3 ⟨⟨v, rfl, hv⟩, hd, hk⟩
  have hwl3 := clean_wait j sec (k + m) r1.1
  obtain ⟨r2, hr2⟩ : ∃ r, cleanJ j sec (k + m) r1.1 = r := ⟨_, rfl⟩
  rw [hr2] at hv hd hwl3 HR
  have HD3 := Lib.hid hd
  have HK3 := Lib.hid (HK2.out.trans hk)
  have h03 := Nat.le_trans h02 hk.size
  clear hd hk hr2 HD2 HK2
  rcases hv with ⟨hc, rfl⟩ | ⟨hc, b, rfl, hf⟩
  case inr =>
    rw [bindE_no hc] at HR
    go_wp2_with fail
    go_ret
    exact ⟨⟨_, rfl, by rw [← HR.out]; exact .inr ⟨hc, b, rfl, hf⟩⟩, by rw [← HR.out]; exact HD3.out, HK3.out⟩
  rw [bindE_ok hc] at HR
  have c0 := HD3.out.j.c0
  clear hc
  go_wp2_with fail
  refine (Flush_any HD3.out.d (by omega) h03).mono ?_
  rintro e w4 ⟨⟨v, rfl, hv⟩, hd, hk⟩
  have hwl4 := flush_wait r2.1
  have hv : ErrIs w4 v (flushR r2.1).2 0 := hv
  have hd : DAt w0 w4 bd bp gh (flushR r2.1).1 := hd
  have hwl4 : (flushR r2.1).1.wait.length ≤ r2.1.wait.length := hwl4
  obtain ⟨r3, hr3⟩ : ∃ r, flushR r2.1 = r := ⟨_, rfl⟩
  rw [hr3] at hv hd hwl4 HR
  have HD4 := Lib.hid (HD3.out.up hk hd)
  have HK4 := Lib.hid (HK3.out.trans hk)
  have h04 := Nat.le_trans h03 hk.size
  clear hd hk hr3 HD3 HK3 c0
  rcases hv with ⟨hc, rfl⟩ | ⟨hc, b, rfl, hf⟩
  case inr =>
    rw [bindE_no hc] at HR
    go_wp2_with fail
    go_ret
    exact ⟨⟨_, rfl, by rw [← HR.out]; exact .inr ⟨hc, b, rfl, hf⟩⟩, by rw [← HR.out]; exact HD4.out, HK4.out⟩
  rw [bindE_ok hc] at HR
  clear hc
  go_wp2_with fail
  refine (wr_any sec k 1 (sub s 0 64) HD4.out (by rw [length_sub]; omega) (by omega) (by omega) (by omega) h04).mono ?_
  rintro e w5 ⟨⟨v, rfl, hv⟩, hd, hk⟩
  have hwl5 := wr_wait j sec 1 k (sub s 0 64) r3.1
  obtain ⟨r4, hr4⟩ : ∃ r, wrJ j sec 1 k (sub s 0 64) r3.1 = r := ⟨_, rfl⟩
  rw [hr4] at hv hd hwl5 HR
  have HD5 := Lib.hid hd
  have HK5 := Lib.hid (HK4.out.trans hk)
  have h05 := Nat.le_trans h04 hk.size
  clear hd hk hr4 HD4 HK4
  rcases hv with ⟨hc, rfl⟩ | ⟨hc, b, rfl, hf⟩
  case inr =>
    rw [bindE_no hc] at HR
    go_wp2_with fail
    go_ret
    exact ⟨⟨_, rfl, by rw [← HR.out]; exact .inr ⟨hc, b, rfl, hf⟩⟩, by rw [← HR.out]; exact HD5.out, HK5.out⟩
  rw [bindE_ok hc] at HR
  have c0 := HD5.out.j.c0
  clear hc
  go_wp2_with fail
  refine (Flush_any HD5.out.d (by omega) h05).mono ?_
  rintro e w6 ⟨⟨v, rfl, hv⟩, hd, hk⟩
  have HD6 := Lib.hid (HD5.out.up hk hd)
  have HK6 := Lib.hid (HK5.out.trans hk)
  clear hd hk c0
  go_wp2_with fail
  go_ret
  exact ⟨⟨v, rfl, by rw [← HR.out]; exact hv⟩, by rw [← HR.out]; exact HD6.out, HK6.out⟩
end Go.Proofs.YtjbdjkpbkjkdpaaDoor
