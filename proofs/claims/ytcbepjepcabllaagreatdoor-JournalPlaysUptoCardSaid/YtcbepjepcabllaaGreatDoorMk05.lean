/- Texts of this proof, laid into one: JdF, JnA, JnB, FrF, PkP, JnC. -/
import Derived.Test.YtcbepjepcabllaaGreatDoorMk04
/- A new disk; texts of bytes 0. -/
set_option linter.unusedVariables false
set_option linter.unusedSimpArgs false
namespace Go.Proofs.YtcbepjepcabllaaGreatDoor
open Go Go.RowKit
theorem make_z (n : Nat) (w : World) (hn : n ≤ 281474976710656) :
    (Instr.makeSlice 59 (.int .i64 (n : Int)) (.int .i64 (n : Int))).run Tryz.prog w = .ok (.slice (some ⟨w.heap.size, 0, none⟩) n n) (w.alloc (.cells (madeCells #[.int .u8 0] n) 5)) := by
  obtain ⟨i, hi, hz, hsz, hby⟩ := info_parts info_u8
  have h := run_make (P := Tryz.prog) w 59 5 i _ Tryz.underlying59 hi hz .i64 .i64 (n : Int) (n : Int) (by omega) (by omega) (by rw [hby]; omega) (by omega)
  rw [hsz, Int.toNat_natCast, Nat.mul_one] at h
  exact h
theorem made_z (n : Nat) : madeCells #[.int .u8 0] n = arrB (zL n) := by
  rw [← Array.toList_inj, toList_madeCells_one]
  simp [arrB, zL, u8V]
set_option maxHeartbeats 400000 in
theorem text_any (n : Nat) (w : World) (hn : n ≤ 281474976710656) : Calls Tryz.prog 7 #[.int .i64 (n : Int)] w fun e w' => e = .returned (.string ⟨(zL n).toArray⟩) ∧ Q w w' := by
  have hmk := make_z n w hn
  have hcv := conv_zeros w n n
  have hq : Q w (w.alloc (.cells (madeCells #[.int .u8 0] n) 5)) := (Q.refl _).alloc _
  obtain ⟨W, hW⟩ : ∃ W, w.alloc (.cells (madeCells #[.int .u8 0] n) 5) = W := ⟨_, rfl⟩
  rw [hW] at hmk hcv hq
  clear hW
  go_enter Tryz.func7, Tryz.ntmps7
  go_wp2_with fail
  go_ret
  exact ⟨rfl, hq⟩
def blankL : List UInt8 := zL 64
set_option maxHeartbeats 400000 in
theorem blank_any (w : World) : Calls Tryz.prog 57 #[] w fun e w' => e = .returned (.string ⟨blankL.toArray⟩) ∧ Q w w' := by
  have hmk : (Instr.makeSlice 59 (.int .i64 64) (.int .i64 64)).run Tryz.prog w = _ := make_z 64 w (by omega)
  have hcv := conv_zeros w 64 64
  have hq : Q w (w.alloc (.cells (madeCells #[.int .u8 0] 64) 5)) := (Q.refl _).alloc _
  obtain ⟨W, hW⟩ : ∃ W, w.alloc (.cells (madeCells #[.int .u8 0] 64) 5) = W := ⟨_, rfl⟩
  rw [hW] at hmk hcv hq
  clear hW
  unfold blankL
  go_enter Tryz.func57, Tryz.ntmps57
  go_wp2_with fail
  go_ret
  exact ⟨rfl, hq⟩
def newD : DskS := ⟨zL 4096, [], false, -1, false⟩
theorem newD_len : newD.has.length = 4096 := by unfold newD; simp only [length_zL]
theorem newD_n : newD.n = 64 := by unfold DskS.n newD; simp only [length_zL]
theorem newD_ok : newD.Ok := ⟨by rw [newD_n]; unfold newD; simp only [length_zL], by rw [newD_n]; omega, ⟨by unfold newD; simp only; omega, by unfold newD; simp only; omega⟩, fun p hp => by cases hp⟩
set_option maxHeartbeats 400000 in
theorem NewPower_any (w : World) : Calls Tryz.prog 23 #[] w fun e w' => e = .returned (.pointer (some ⟨w.heap.size, 0, none⟩)) ∧ w'.heap[w.heap.size]? = some (.cells #[.bool false, .int .i64 (-1), .int .i64 0] 96 (0, 0)) ∧ Q w w' := by
  go_enter Tryz.func23, Tryz.ntmps23
  go_wp2_with fail
  go_ret
  exact ⟨rfl, (MapKept.heap_alloc w _).1, (Q.refl _).alloc _⟩
set_option maxHeartbeats 1000000 in
theorem New_any (bp : Nat) (w0 w : World) (hp : w.heap[bp]? = some (.cells #[.bool false, .int .i64 (-1), .int .i64 0] 96 (0, 0))) (h0 : w0.heap.size ≤ bp) (h1 : w0.heap.size ≤ w.heap.size) :
    Calls Tryz.prog 24 #[.pointer (some ⟨bp, 0, none⟩), .int .i64 64] w fun e w' => (∃ bd gh, e = .returned (.tuple #[.pointer (some ⟨bd, 0, none⟩), .nilIface]) ∧ DAt w0 w' bd bp gh newD) ∧ Q w w' := by
  have hmk : (Instr.makeSlice 59 (.int .i64 4096) (.int .i64 4096)).run Tryz.prog w = _ := make_z 4096 w (by omega)
  rw [made_z] at hmk
  have hm : (w.alloc (.cells (arrB (zL 4096)) 5)).heap[w.heap.size]? = some (.cells (arrB (zL 4096)) 5 (0, 0)) := (MapKept.heap_alloc w _).1
  have hq : Q w (w.alloc (.cells (arrB (zL 4096)) 5)) := (Q.refl _).alloc _
  obtain ⟨g, hg⟩ : ∃ g, w.heap.size = g := ⟨_, rfl⟩
  rw [hg] at hmk hm
  obtain ⟨W, hW⟩ : ∃ W, w.alloc (.cells (arrB (zL 4096)) 5) = W := ⟨_, rfl⟩
  rw [hW] at hmk hm hq
  have hb : (W.alloc (.cells #[.pointer (some ⟨bp, 0, none⟩), .slice (some ⟨g, 0, none⟩) 4096 4096, .slice none 0 0, .bool false, .int .i64 0] 65)).heap[W.heap.size]? = some (.cells #[.pointer (some ⟨bp, 0, none⟩), .slice (some ⟨g, 0, none⟩) 4096 4096, .slice none 0 0, .bool false, .int .i64 0] 65 (0, 0)) := (MapKept.heap_alloc W _).1
  have hq2 : Q W (W.alloc (.cells #[.pointer (some ⟨bp, 0, none⟩), .slice (some ⟨g, 0, none⟩) 4096 4096, .slice none 0 0, .bool false, .int .i64 0] 65)) := (Q.refl _).alloc _
  have hD : DAt w0 (W.alloc (.cells #[.pointer (some ⟨bp, 0, none⟩), .slice (some ⟨g, 0, none⟩) 4096 4096, .slice none 0 0, .bool false, .int .i64 0] 65)) W.heap.size bp g newD :=
    ⟨⟨.slice none 0 0, 0, (by rw [newD_len]; exact hb), OwnW.nil _ _⟩, ⟨0, hq2.block (hq.block hp), by omega, by omega⟩, hq2.block hm, by have := hq.size; omega, h0, by omega, newD_ok⟩
  have HD := Lib.hid hD
  have HQ := Lib.hid (hq.trans hq2)
  clear hW hg hb hq hq2 hD hm hp
  go_enter Tryz.func24, Tryz.ntmps24
  go_wp2_with fail
  go_ret2
  exact ⟨⟨_, g, rfl, HD.out⟩, HQ.out⟩
set_option maxHeartbeats 1000000 in
theorem rack_any (w : World) : Calls Tryz.prog 5 #[] w fun e w' => (∃ bd bp gh, e = .returned (.tuple #[.pointer (some ⟨bp, 0, none⟩), .pointer (some ⟨bd, 0, none⟩)]) ∧ DAt w w' bd bp gh newD) ∧ Q w w' := by
  go_enter Tryz.func5, Tryz.ntmps5
  go_wp2_with fail
  refine (NewPower_any w).mono ?_
  rintro e w1 ⟨rfl, hp, hq⟩
  obtain ⟨bp, hbp⟩ : ∃ b, w.heap.size = b := ⟨_, rfl⟩
  rw [hbp] at hp ⊢
  have HN := Lib.hid (New_any bp w w1 hp (by omega) hq.size)
  clear hp hbp
  go_wp2_with fail
  refine HN.out.mono ?_
  rintro e w2 ⟨⟨bd, gh, rfl, hd⟩, hq2⟩
  have HD := Lib.hid hd
  clear hd
  go_wp2_with fail
  go_ret2
  exact ⟨⟨bd, bp, gh, rfl, HD.out⟩, hq.trans hq2⟩
end Go.Proofs.YtcbepjepcabllaaGreatDoor
/- A journal: what lies in memory; its sectors' numbers; write. -/
set_option linter.unusedVariables false
set_option linter.unusedSimpArgs false
namespace Go.Proofs.YtcbepjepcabllaaGreatDoor
open Go Go.RowKit
/-- A journal, plain, but for its disk. -/
structure JrnS where
  first : Nat
  half : Nat
  second : Bool
  epoch : Nat
  many : Nat
  next : Nat
  closed : Bool
def JAt (w : World) (bj bd : Nat) (j : JrnS) : Prop := w.heap[bj]? = some (.cells #[.pointer (some ⟨bd, 0, none⟩), .int .i64 (j.first : Int), .int .i64 (j.half : Int), .bool j.second, .int .i64 (j.epoch : Int), .int .i64 (j.many : Int), .int .i64 (j.next : Int), .bool j.closed] 73 (0, 0))
theorem JAt.q {w w' : World} {bj bd : Nat} {j : JrnS} (h : JAt w bj bd j) (hq : Q w w') : JAt w' bj bd j := hq.block h
theorem JAt.k {w0 w w' : World} {S : List Nat} {bj bd : Nat} {j : JrnS} (h : JAt w bj bd j) (hk : K w0 S w w') (hs : bj ∉ S) : JAt w' bj bd j := hk.heap hs (by decide) h
theorem JAt.c0 {w : World} {bj bd : Nat} {j : JrnS} (h : JAt w bj bd j) : w.cell? ⟨bj, 0, none⟩ = some (.pointer (some ⟨bd, 0, none⟩)) := by rw [cell_of_row _ _ _ _ _ _ h]; rfl
theorem JAt.c1 {w : World} {bj bd : Nat} {j : JrnS} (h : JAt w bj bd j) : w.cell? ⟨bj, 1, none⟩ = some (.int .i64 (j.first : Int)) := by rw [cell_of_row _ _ _ _ _ _ h]; rfl
theorem JAt.c2 {w : World} {bj bd : Nat} {j : JrnS} (h : JAt w bj bd j) : w.cell? ⟨bj, 2, none⟩ = some (.int .i64 (j.half : Int)) := by rw [cell_of_row _ _ _ _ _ _ h]; rfl
theorem JAt.c3 {w : World} {bj bd : Nat} {j : JrnS} (h : JAt w bj bd j) : w.cell? ⟨bj, 3, none⟩ = some (.bool j.second) := by rw [cell_of_row _ _ _ _ _ _ h]; rfl
theorem JAt.c4 {w : World} {bj bd : Nat} {j : JrnS} (h : JAt w bj bd j) : w.cell? ⟨bj, 4, none⟩ = some (.int .i64 (j.epoch : Int)) := by rw [cell_of_row _ _ _ _ _ _ h]; rfl
theorem JAt.c5 {w : World} {bj bd : Nat} {j : JrnS} (h : JAt w bj bd j) : w.cell? ⟨bj, 5, none⟩ = some (.int .i64 (j.many : Int)) := by rw [cell_of_row _ _ _ _ _ _ h]; rfl
theorem JAt.c6 {w : World} {bj bd : Nat} {j : JrnS} (h : JAt w bj bd j) : w.cell? ⟨bj, 6, none⟩ = some (.int .i64 (j.next : Int)) := by rw [cell_of_row _ _ _ _ _ _ h]; rfl
theorem JAt.c7 {w : World} {bj bd : Nat} {j : JrnS} (h : JAt w bj bd j) : w.cell? ⟨bj, 7, none⟩ = some (.bool j.closed) := by rw [cell_of_row _ _ _ _ _ _ h]; rfl
theorem JAt.fz {w : World} {bj bd : Nat} {j : JrnS} (h : JAt w bj bd j) (i : Nat) : w.frozen? ⟨bj, i, none⟩ = false := frozen_of_row w bj i _ _ h
/-- The journal on its disk. -/
structure JD (w0 w : World) (bj bd bp gh : Nat) (j : JrnS) (d : DskS) : Prop where
  j : JAt w bj bd j
  d : DAt w0 w bd bp gh d
  n : w0.heap.size ≤ bj
theorem JD.q {w0 w w' : World} {bj bd bp gh : Nat} {j : JrnS} {d : DskS} (h : JD w0 w bj bd bp gh j d) (hq : Q w w') : JD w0 w' bj bd bp gh j d := ⟨h.j.q hq, h.d.q hq, h.n⟩
theorem JD.up {w0 w w' : World} {bj bd bp gh : Nat} {j : JrnS} {d d' : DskS} (h : JD w0 w bj bd bp gh j d) (hk : K w0 [] w w') (hd : DAt w0 w' bd bp gh d') : JD w0 w' bj bd bp gh j d' := ⟨h.j.k hk (by simp), hd, h.n⟩
def atJ (j : JrnS) (s : Bool) (k : Nat) : Nat := j.first + (if s then j.half else 0) + k
set_option maxHeartbeats 400000 in
theorem at_any {w : World} {bj bd : Nat} {j : JrnS} (h : JAt w bj bd j) (s : Bool) (k : Nat) (hb : j.first + j.half + k ≤ 1000000) :
    Calls Tryz.prog 56 #[.pointer (some ⟨bj, 0, none⟩), .bool s, .int .i64 (k : Int)] w fun e w' => e = .returned (.int .i64 (atJ j s k : Int)) ∧ w = w' := by
  have c1 := h.c1
  have c2 := h.c2
  unfold atJ
  have b1 : (j.first : Int) + (j.half : Int) + (k : Int) ≤ 1000000 := by omega
  clear h
  go_enter Tryz.func56, Tryz.ntmps56
  cases s with
  | true =>
    go_wp2_with fail
    go_ret
    exact ⟨ret_int (by first | omega | (simp; omega)), rfl⟩
  | false =>
    go_wp2_with fail
    go_ret
    exact ⟨ret_int (by first | omega | simp), rfl⟩
def unmarkL (s : List UInt8) : List UInt8 := 0 :: sub s 1 s.length
set_option maxHeartbeats 400000 in
theorem unmarked_any (s : List UInt8) (w : World) (h0 : 1 ≤ s.length) (hl : s.length ≤ 10000000) :
    Calls Tryz.prog 66 #[.string ⟨s.toArray⟩] w fun e w' => e = .returned (.string ⟨(unmarkL s).toArray⟩) ∧ w = w' := by
  unfold unmarkL
  go_enter Tryz.func66, Tryz.ntmps66
  go_wp2_with fail
  go_ret
  exact ⟨rfl, rfl⟩
/-- Sectors laid down one behind the other: what is left of the disk, the error. -/
def wrJ (j : JrnS) (sec : Bool) : Nat → Nat → List UInt8 → DskS → DskS × Int
  | 0, _, _, d => (d, 0)
  | m + 1, k, s, d => if writeC d (atJ j sec k) (sub s 0 64) = 0 then wrJ j sec m (k + 1) (sub s 64 s.length) (writeD d (atJ j sec k) (sub s 0 64)) else (writeD d (atJ j sec k) (sub s 0 64), writeC d (atJ j sec k) (sub s 0 64))
theorem write_wait (d : DskS) (i : Int) (s : List UInt8) : (writeD d i s).wait.length ≤ d.wait.length + 1 := by
  unfold writeD
  split
  · omega
  · split
    · rw [(actD_same d).2.1]; omega
    · simp
set_option maxRecDepth 100000 in
set_option maxHeartbeats 4000000 in
theorem wr_any {w0 w : World} {bj bd bp gh : Nat} {j : JrnS} {d : DskS} (sec : Bool) (k m : Nat) (s : List UInt8) (h : JD w0 w bj bd bp gh j d) (hs : s.length = 64 * m) (hm : m ≤ 100000) (hb : j.first + j.half + k + m ≤ 1000000) (hw : d.wait.length + m ≤ 1000000) (h0 : w0.heap.size ≤ w.heap.size) :
    Calls Tryz.prog 65 #[.pointer (some ⟨bj, 0, none⟩), .bool sec, .int .i64 (k : Int), .string ⟨s.toArray⟩] w fun e w' => (∃ v, e = .returned v ∧ ErrIs w' v (wrJ j sec m k s d).2 0) ∧ JD w0 w' bj bd bp gh j (wrJ j sec m k s d).1 ∧ K w0 [] w w' := by
  have HJ := Lib.hid h
  clear h
  go_enter Tryz.func65, Tryz.ntmps65
  go_wp2_with fail
  go_loopw [2, 3] (fun kv sv wr => ∃ (m' k' : Nat) (s' : List UInt8) (d' : DskS), kv = .int .i64 (k' : Int) ∧ sv = .string ⟨s'.toArray⟩ ∧ s'.length = 64 * m' ∧ m' ≤ 100000 ∧ j.first + j.half + k' + m' ≤ 1000000 ∧ d'.wait.length + m' ≤ 1000000 ∧ Hid (wrJ j sec m k s d = wrJ j sec m' k' s' d') ∧ Hid (JD w0 wr bj bd bp gh j d') ∧ Hid (K w0 [] w wr)) (fun _ sv _ => match sv with | .string b => b.size | _ => 0)
  case atStart => exact ⟨m, k, s, d, rfl, rfl, hs, hm, hb, hw, rfl, HJ.out, K.q (Q.refl _)⟩
  case round =>
    obtain ⟨m', k', s', d', rfl, rfl, hs', hm', hb', hw', HE, HD, HK⟩ := hrel
    have h0r : w0.heap.size ≤ wr.heap.size := Nat.le_trans h0 HK.out.size
    cases m' with
    | zero =>
      have g1 : decide (0 < s'.length) = false := by rw [hs']; rfl
      have HE2 : Hid (wrJ j sec m k s d = (d', 0)) := Lib.hid HE.out
      clear hs' hb' hw'
      go_wp2_with fail
      go_ret
      exact ⟨⟨.nilIface, rfl, by rw [HE2.out]; exact .inl ⟨rfl, rfl⟩⟩, by rw [HE2.out]; exact HD.out, HK.out⟩
    | succ m' =>
      have g1 : decide (0 < s'.length) = true := by simp; omega
      have hsl : 64 ≤ s'.length := by omega
      have hsb : s'.length ≤ 6400000 := by omega
      have HS := Lib.hid hs'
      clear hs'
      go_upto_region 3 with (fail)
      have c0 := HD.out.j.c0
      have k0 : ∀ m : QW wr, m.val.cell? ⟨bj, 0, none⟩ = some (.pointer (some ⟨bd, 0, none⟩)) := fun m => m.cell c0
      have HAT := Lib.hid (fun m : QW wr => at_any (HD.out.j.q m.le) sec k' (by omega))
      clear c0
      refine wp_region_q_tail 10 (by kernel_rfl) (by kernel_rfl) ?_
      simp only [List.take_succ_cons, List.take_zero, List.drop_succ_cons, List.drop_zero]
      (repeat (go_big_quiet_step ((go_at_call 56; exact calls_qs (HAT.out _)))))
      refine wpQuiet_nil ?_
      rintro wa ⟨ma, hma⟩
      have hqa : Q wr wa := by rw [hma]; exact ma.le
      have HDa := Lib.hid (HD.out.q hqa)
      have HKa := Lib.hid (HK.out.trans (K.q hqa))
      have h0a : w0.heap.size ≤ wa.heap.size := Nat.le_trans h0r hqa.size
      have hl64 : (sub s' 0 64).length = 64 := by rw [length_sub]; omega
      have HWR := Lib.hid (Write_any (atJ j sec k' : Int) (sub s' 0 64) HDa.out.d (by rw [hl64]; omega) (by omega) h0a)
      clear hma ma hqa k0 HAT hl64 HD HK
      go_wp2_with fail
      refine HWR.out.mono ?_
      rintro e w4 ⟨⟨v, rfl, hv⟩, hd4, hk4⟩
      have HD4 := Lib.hid (HDa.out.up hk4 hd4)
      have HK4 := Lib.hid (HKa.out.trans hk4)
      have hwl := write_wait d' (atJ j sec k' : Int) (sub s' 0 64)
      obtain ⟨D4, hD4⟩ : ∃ D, writeD d' (atJ j sec k') (sub s' 0 64) = D := ⟨_, rfl⟩
      obtain ⟨C4, hC4⟩ : ∃ D, writeC d' (atJ j sec k') (sub s' 0 64) = D := ⟨_, rfl⟩
      have HE4 : Hid (wrJ j sec m k s d = if C4 = 0 then wrJ j sec m' (k' + 1) (sub s' 64 s'.length) D4 else (D4, C4)) := Lib.hid (by rw [HE.out, ← hD4, ← hC4]; rfl)
      rw [hD4] at HD4 hwl
      rw [hC4] at hv
      have hsl2 : (sub s' 64 s'.length).length = 64 * m' := by rw [length_sub, HS.out]; omega
      have HS2 := Lib.hid hsl2
      clear hd4 hk4 hD4 hC4 HWR HE hsl2
      rcases hv with ⟨hc, rfl⟩ | ⟨hc, b, rfl, hf⟩
      · rw [if_pos hc] at HE4
        go_wp2_with fail
        go_roundw
        case rel => exact ⟨m', k' + 1, sub s' 64 s'.length, D4, by go_num, rfl, HS2.out, by omega, by omega, by omega, HE4.out, HD4.out, HK4.out⟩
        case measure =>
          show (sub s' 64 s'.length).toArray.size < s'.toArray.size
          rw [List.size_toArray, List.size_toArray, length_sub]; omega
      · rw [if_neg hc] at HE4
        go_wp2_with fail
        go_ret
        exact ⟨⟨_, rfl, by rw [HE4.out]; exact .inr ⟨hc, b, rfl, hf⟩⟩, by rw [HE4.out]; exact HD4.out, HK4.out⟩
end Go.Proofs.YtcbepjepcabllaaGreatDoor
/- A journal's clean and lay. -/
set_option linter.unusedVariables false
set_option linter.unusedSimpArgs false
namespace Go.Proofs.YtcbepjepcabllaaGreatDoor
open Go Go.RowKit
def cleanJ (j : JrnS) (sec : Bool) (k : Nat) (d : DskS) : DskS × Int := if j.half ≤ k then (d, 0) else (writeD d (atJ j sec k) blankL, writeC d (atJ j sec k) blankL)
set_option maxRecDepth 100000 in
set_option maxHeartbeats 4000000 in
theorem clean_any {w0 w : World} {bj bd bp gh : Nat} {j : JrnS} {d : DskS} (sec : Bool) (k : Nat) (h : JD w0 w bj bd bp gh j d) (hb : j.first + j.half + k ≤ 1000000) (hw : d.wait.length ≤ 1000000) (h0 : w0.heap.size ≤ w.heap.size) :
    Calls Tryz.prog 31 #[.pointer (some ⟨bj, 0, none⟩), .bool sec, .int .i64 (k : Int)] w fun e w' => (∃ v, e = .returned v ∧ ErrIs w' v (cleanJ j sec k d).2 0) ∧ JD w0 w' bj bd bp gh j (cleanJ j sec k d).1 ∧ K w0 [] w w' := by
  have HJ := Lib.hid h
  have c2 := h.j.c2
  clear h
  unfold cleanJ
  by_cases hk : j.half ≤ k
  · have g1 : decide (j.half ≤ k) = true := decide_eq_true hk
    rw [if_pos hk]
    clear hk
    go_enter Tryz.func31, Tryz.ntmps31
    go_wp2_with fail
    go_ret
    exact ⟨⟨.nilIface, rfl, .inl ⟨rfl, rfl⟩⟩, HJ.out, K.q (Q.refl _)⟩
  · have g1 : decide (j.half ≤ k) = false := decide_eq_false hk
    rw [if_neg hk]
    clear hk
    go_enter Tryz.func31, Tryz.ntmps31
    go_upto_region 3 with (fail)
    have k0 : ∀ m : QW w, m.val.cell? ⟨bj, 0, none⟩ = some (.pointer (some ⟨bd, 0, none⟩)) := fun m => m.cell HJ.out.j.c0
    have HAT := Lib.hid (fun m : QW w => at_any (HJ.out.j.q m.le) sec k hb)
    clear c2
    refine wp_region_q_tail 9 (by kernel_rfl) (by kernel_rfl) ?_
    simp only [List.take_succ_cons, List.take_zero, List.drop_succ_cons, List.drop_zero]
    (repeat (go_big_quiet_step (first | (go_at_call 56; exact calls_qs (HAT.out _)) | (go_at_call 57; exact calls_q (blank_any _)))))
    refine wpQuiet_nil ?_
    rintro wa ⟨ma, hma⟩
    have hqa : Q w wa := by rw [hma]; exact ma.le
    have HDa := Lib.hid (HJ.out.q hqa)
    have h0a : w0.heap.size ≤ wa.heap.size := Nat.le_trans h0 hqa.size
    have HQ := Lib.hid hqa
    have HWR := Lib.hid (Write_any (atJ j sec k : Int) blankL HDa.out.d (by unfold blankL; rw [length_zL]; omega) hw h0a)
    clear hma ma hqa k0 HAT
    go_wp2_with fail
    refine HWR.out.mono ?_
    rintro e w4 ⟨⟨v, rfl, hv⟩, hd4, hk4⟩
    have HD4 := Lib.hid (HDa.out.up hk4 hd4)
    have HK4 := Lib.hid ((K.q HQ.out).trans hk4)
    clear hd4 hk4 HWR
    go_wp2_with fail
    go_ret
    exact ⟨⟨v, rfl, hv⟩, HD4.out, HK4.out⟩
theorem clean_wait (j : JrnS) (sec : Bool) (k : Nat) (d : DskS) : (cleanJ j sec k d).1.wait.length ≤ d.wait.length + 1 := by
  unfold cleanJ; split
  · exact Nat.le_succ _
  · exact write_wait _ _ _
theorem wr_wait (j : JrnS) (sec : Bool) (m : Nat) : ∀ (k : Nat) (s : List UInt8) (d : DskS), (wrJ j sec m k s d).1.wait.length ≤ d.wait.length + m := by
  induction m with
  | zero => intro k s d; exact Nat.le_refl _
  | succ m ih =>
    intro k s d
    unfold wrJ
    have h1 := write_wait d (atJ j sec k) (sub s 0 64)
    split
    · have := ih (k + 1) (sub s 64 s.length) (writeD d (atJ j sec k) (sub s 0 64)); omega
    · simp only; omega
def flushR (d : DskS) : DskS × Int := (flushD d, flushC d)
theorem flush_wait (d : DskS) : (flushD d).wait.length ≤ d.wait.length := by
  unfold flushD; split
  · omega
  · split
    · rw [(actD_same d).2.1]; omega
    · simp
/-- One step behind another, if it went well. -/
def bindE (r : DskS × Int) (f : DskS → DskS × Int) : DskS × Int := if r.2 = 0 then f r.1 else r
theorem bindE_ok {r : DskS × Int} {f : DskS → DskS × Int} (h : r.2 = 0) : bindE r f = f r.1 := if_pos h
theorem bindE_no {r : DskS × Int} {f : DskS → DskS × Int} (h : r.2 ≠ 0) : bindE r f = r := if_neg h
def layJ (j : JrnS) (sec : Bool) (k m : Nat) (s : List UInt8) (d : DskS) : DskS × Int :=
  bindE (wrJ j sec m k (unmarkL s) d) fun d1 => bindE (cleanJ j sec (k + m) d1) fun d2 => bindE (flushR d2) fun d3 => bindE (wrJ j sec 1 k (sub s 0 64) d3) flushR
theorem unmarkL_len {s : List UInt8} (h : 1 ≤ s.length) : (unmarkL s).length = s.length := by unfold unmarkL; rw [List.length_cons, length_sub]; omega
set_option maxRecDepth 100000 in
set_option maxHeartbeats 4000000 in
theorem lay_any {w0 w : World} {bj bd bp gh : Nat} {j : JrnS} {d : DskS} (sec : Bool) (k m : Nat) (s : List UInt8) (h : JD w0 w bj bd bp gh j d) (hs : s.length = 64 * m) (hm : 1 ≤ m ∧ m ≤ 100000) (hb : j.first + j.half + k + m ≤ 1000000) (hw : d.wait.length + m ≤ 999990) (h0 : w0.heap.size ≤ w.heap.size) :
    Calls Tryz.prog 34 #[.pointer (some ⟨bj, 0, none⟩), .bool sec, .int .i64 (k : Int), .string ⟨s.toArray⟩] w fun e w' => (∃ v, e = .returned v ∧ ErrIs w' v (layJ j sec k m s d).2 0) ∧ JD w0 w' bj bd bp gh j (layJ j sec k m s d).1 ∧ K w0 [] w w' := by
  have HJ := Lib.hid h
  have hsl : 1 ≤ s.length ∧ s.length ≤ 6400000 := by omega
  have h64 : 64 ≤ s.length := by omega
  have hul := unmarkL_len hsl.1
  have HU := Lib.hid (hul.trans hs)
  have hdv : (s.length : Int) / 64 = (m : Int) := by omega
  have HS := Lib.hid hs
  obtain ⟨R, hR⟩ : ∃ R, layJ j sec k m s d = R := ⟨_, rfl⟩
  have HR := Lib.hid hR
  rw [hR]
  unfold layJ at HR
  clear h hul hs hR
  go_enter Tryz.func34, Tryz.ntmps34
  go_wp2_with fail
  refine (unmarked_any s w (by omega) (by omega)).mono ?_
  rintro e w1 ⟨rfl, rfl⟩
  go_wp2_with fail
  refine (wr_any sec k m (unmarkL s) HJ.out HU.out hm.2 (by omega) (by omega) h0).mono ?_
  rintro e w2 ⟨⟨v, rfl, hv⟩, hd, hk⟩
  have hwl := wr_wait j sec m k (unmarkL s) d
  obtain ⟨r1, hr1⟩ : ∃ r, wrJ j sec m k (unmarkL s) d = r := ⟨_, rfl⟩
  rw [hr1] at hv hd hwl HR
  have HD2 := Lib.hid hd
  have HK2 := Lib.hid hk
  have h02 := Nat.le_trans h0 hk.size
  clear hd hk hr1 HJ
  rcases hv with ⟨hc, rfl⟩ | ⟨hc, b, rfl, hf⟩
  case inr =>
    rw [bindE_no hc] at HR
    go_wp2_with fail
    go_ret
    exact ⟨⟨_, rfl, by rw [← HR.out]; exact .inr ⟨hc, b, rfl, hf⟩⟩, by rw [← HR.out]; exact HD2.out, HK2.out⟩
  rw [bindE_ok hc] at HR
  clear hc
  go_wp2_with fail
  refine (clean_any sec (k + m) HD2.out (by omega) (by omega) h02).mono ?_
  rintro e w3 ⟨⟨v, rfl, hv⟩, hd, hk⟩
  have hwl3 := clean_wait j sec (k + m) r1.1
  obtain ⟨r2, hr2⟩ : ∃ r, cleanJ j sec (k + m) r1.1 = r := ⟨_, rfl⟩
  rw [hr2] at hv hd hwl3 HR
  have HD3 := Lib.hid hd
  have HK3 := Lib.hid (HK2.out.trans hk)
  have h03 := Nat.le_trans h02 hk.size
  clear hd hk hr2 HD2 HK2
  rcases hv with ⟨hc, rfl⟩ | ⟨hc, b, rfl, hf⟩
  case inr =>
    rw [bindE_no hc] at HR
    go_wp2_with fail
    go_ret
    exact ⟨⟨_, rfl, by rw [← HR.out]; exact .inr ⟨hc, b, rfl, hf⟩⟩, by rw [← HR.out]; exact HD3.out, HK3.out⟩
  rw [bindE_ok hc] at HR
  have c0 := HD3.out.j.c0
  clear hc
  go_wp2_with fail
  refine (Flush_any HD3.out.d (by omega) h03).mono ?_
  rintro e w4 ⟨⟨v, rfl, hv⟩, hd, hk⟩
  have hwl4 := flush_wait r2.1
  have hv : ErrIs w4 v (flushR r2.1).2 0 := hv
  have hd : DAt w0 w4 bd bp gh (flushR r2.1).1 := hd
  have hwl4 : (flushR r2.1).1.wait.length ≤ r2.1.wait.length := hwl4
  obtain ⟨r3, hr3⟩ : ∃ r, flushR r2.1 = r := ⟨_, rfl⟩
  rw [hr3] at hv hd hwl4 HR
  have HD4 := Lib.hid (HD3.out.up hk hd)
  have HK4 := Lib.hid (HK3.out.trans hk)
  have h04 := Nat.le_trans h03 hk.size
  clear hd hk hr3 HD3 HK3 c0
  rcases hv with ⟨hc, rfl⟩ | ⟨hc, b, rfl, hf⟩
  case inr =>
    rw [bindE_no hc] at HR
    go_wp2_with fail
    go_ret
    exact ⟨⟨_, rfl, by rw [← HR.out]; exact .inr ⟨hc, b, rfl, hf⟩⟩, by rw [← HR.out]; exact HD4.out, HK4.out⟩
  rw [bindE_ok hc] at HR
  clear hc
  go_wp2_with fail
  refine (wr_any sec k 1 (sub s 0 64) HD4.out (by rw [length_sub]; omega) (by omega) (by omega) (by omega) h04).mono ?_
  rintro e w5 ⟨⟨v, rfl, hv⟩, hd, hk⟩
  have hwl5 := wr_wait j sec 1 k (sub s 0 64) r3.1
  obtain ⟨r4, hr4⟩ : ∃ r, wrJ j sec 1 k (sub s 0 64) r3.1 = r := ⟨_, rfl⟩
  rw [hr4] at hv hd hwl5 HR
  have HD5 := Lib.hid hd
  have HK5 := Lib.hid (HK4.out.trans hk)
  have h05 := Nat.le_trans h04 hk.size
  clear hd hk hr4 HD4 HK4
  rcases hv with ⟨hc, rfl⟩ | ⟨hc, b, rfl, hf⟩
  case inr =>
    rw [bindE_no hc] at HR
    go_wp2_with fail
    go_ret
    exact ⟨⟨_, rfl, by rw [← HR.out]; exact .inr ⟨hc, b, rfl, hf⟩⟩, by rw [← HR.out]; exact HD5.out, HK5.out⟩
  rw [bindE_ok hc] at HR
  have c0 := HD5.out.j.c0
  clear hc
  go_wp2_with fail
  refine (Flush_any HD5.out.d (by omega) h05).mono ?_
  rintro e w6 ⟨⟨v, rfl, hv⟩, hd, hk⟩
  have HD6 := Lib.hid (HD5.out.up hk hd)
  have HK6 := Lib.hid (HK5.out.trans hk)
  clear hd hk c0
  go_wp2_with fail
  go_ret
  exact ⟨⟨v, rfl, by rw [← HR.out]; exact hv⟩, by rw [← HR.out]; exact HD6.out, HK6.out⟩
end Go.Proofs.YtcbepjepcabllaaGreatDoor
/- frame.Unpack. -/
set_option linter.unusedVariables false
namespace Go.Proofs.YtcbepjepcabllaaGreatDoor
open Go Go.RowKit

def uCrc (s : List UInt8) : BitVec 32 := crcMore (crcSum (sub s 4 20)) (sub s 24 (24 + nAt s 4))
def tailL (e n : Int) : List UInt8 := U32 n ++ (U32 (e / 4294967296) ++ U32 e)
def UnpOk (s : List UInt8) (e n : Int) : Prop :=
  rightB e n = true ∧ 24 ≤ s.length ∧ (gB s 0).toNat = 1 ∧ nAt s 4 ≤ 60000 ∧ endsN (nAt s 4) ≤ s.length ∧ sub s 8 20 = tailL e n ∧ r32 (sub s 20 s.length) = ((uCrc s).toNat : Int)

set_option maxRecDepth 100000 in
set_option maxHeartbeats 2000000 in
theorem Unpack_ok (s : List UInt8) (e n : Int) (w : World) (hl : s.length ≤ 281474976710656) (h : UnpOk s e n) :
    Calls Tryz.prog 52 #[.string ⟨s.toArray⟩, .int .i64 e, .int .i64 n] w fun x w' =>
      x = .returned (.tuple #[.string ⟨(sub s 24 (24 + nAt s 4)).toArray⟩, .int .i64 (endsN (nAt s 4)), .nilIface]) ∧ Q w w' := by
  obtain ⟨hr, h24, h1, hN, hE, hT, hC⟩ := h
  obtain ⟨e0, e1, n0, n1⟩ := right_spec hr
  have hd1 : ((gB s 0).toNat : Int) = 1 := by omega
  have b1 : (((gB s 0).toNat : Int) != 1) = false := by simp [h1]
  have b2 : (sub s 8 20 == U32 n ++ (U32 (e / 4294967296) ++ U32 e)) = true := by simpa [tailL] using hT
  have b3 : (r32 (sub s 20 s.length) != ((crcMore (crcSum (sub s 4 20)) (sub s 24 (24 + nAt s 4))).toNat : Int)) = false := by simpa [uCrc] using hC
  have d0 : decide ((s.length : Int) < 24) = false := by simp; omega
  have d1 : decide (60000 < (nAt s 4 : Int)) = false := by simp; omega
  have d2 : decide ((s.length : Int) < endsN (nAt s 4)) = false := by simp; omega
  have hE2 : 24 + (nAt s 4 : Int) ≤ endsN (nAt s 4) := by unfold endsN; omega
  have c1 := (crcMore (crcSum (sub s 4 20)) (sub s 24 (24 + nAt s 4))).isLt
  have l1 : ∀ k, (U32 k).length = 4 := length_U32
  have ht : (24 + (nAt s 4 : Int)).toNat = 24 + nAt s 4 := by omega
  clear hT hC h1 hd1
  have hn4 := nAt_r32 s 4
  have HN := Lib.hid hn4
  clear hn4
  have ls1 := length_sub s 4 20
  have ls2 := length_sub s 24 (24 + nAt s 4)
  have LS1 := Lib.hid ls1
  have LS2 := Lib.hid ls2
  clear ls1 ls2
  go_enter Tryz.func52, Tryz.ntmps52
  go_wp2_with fail
  refine (right_any _ _ _).mono ?_
  rintro x w1 ⟨rfl, rfl⟩
  rw [hr]
  go_wp2_with fail
  refine (read32_any _ _ (by rw [length_sub]; omega)).mono ?_
  rintro x w1 ⟨rfl, hq1⟩
  rw [HN.out]
  go_wp2_with fail
  refine wp_region_q (by kernel_rfl) (by kernel_rfl) ?_
  (repeat (go_big_quiet_step (first | (go_at_call 64; exact calls_qs (ends_any _ _ (by omega) (by omega))) | (go_at_call 60; exact calls_q (u32_any _ _ (by omega) (by omega))) | (go_at_call 78; exact calls_q (read32_any _ _ (by rw [length_sub]; omega))) | (go_at_call 62; exact calls_qs (Sum_any _ _ (by rw [length_sub]; omega))) | (go_at_call 61; exact calls_qs (More_any _ _ _ (by rw [length_sub]; omega))))))
  refine wpQuiet_nil ?_
  rintro _ ⟨⟨w2, hq2⟩, rfl⟩
  go_wp2_with fail
  refine (Clone_any _ _ (by rw [LS2.out]; omega)).mono ?_
  rintro x w3 ⟨rfl, hq3⟩
  go_wp2_with fail
  refine (ends_any _ _ (by omega) (by omega)).mono ?_
  rintro x w4 ⟨rfl, rfl⟩
  go_wp2_with fail
  go_ret3
  exact ⟨rfl, (hq1.trans hq2).trans hq3⟩

set_option maxRecDepth 100000 in
set_option maxHeartbeats 2000000 in
theorem Unpack_bad1 (s : List UInt8) (e n : Int) (w : World) (hl : s.length ≤ 281474976710656) (h : rightB e n = false ∨ s.length < 24 ∨ (gB s 0).toNat ≠ 1) :
    Calls Tryz.prog 52 #[.string ⟨s.toArray⟩, .int .i64 e, .int .i64 n] w fun x w' =>
      ∃ ev, x = .returned (.tuple #[.string ⟨#[]⟩, .int .i64 0, ev]) ∧ ErrIs w' ev 20 0 ∧ Q w w' := by
  by_cases hr : rightB e n = false
  · go_enter Tryz.func52, Tryz.ntmps52
    go_wp2_with fail
    refine (right_any _ _ _).mono ?_
    rintro x w1 ⟨rfl, rfl⟩
    rw [hr]
    go_wp2_with fail
    refine (fault_any _ _ _).mono ?_; rintro e wf ⟨⟨b, rfl, hf⟩, hqf⟩; go_wp2_with fail; go_ret3
    exact ⟨_, rfl, .inr ⟨by decide, b, rfl, hf⟩, hqf⟩
  · have hr : rightB e n = true := by simpa using hr
    by_cases h24 : s.length < 24
    · have d0 : decide ((s.length : Int) < 24) = true := by simp; omega
      go_enter Tryz.func52, Tryz.ntmps52
      go_wp2_with fail
      refine (right_any _ _ _).mono ?_
      rintro x w1 ⟨rfl, rfl⟩
      rw [hr]
      go_wp2_with fail
      refine (fault_any _ _ _).mono ?_; rintro e wf ⟨⟨b, rfl, hf⟩, hqf⟩; go_wp2_with fail; go_ret3
      exact ⟨_, rfl, .inr ⟨by decide, b, rfl, hf⟩, hqf⟩
    · have h1 : (gB s 0).toNat ≠ 1 := by rcases h with h | h | h <;> first | exact h | omega | (rw [hr] at h; cases h)
      have d0 : decide ((s.length : Int) < 24) = false := by simp; omega
      have b1 : (((gB s 0).toNat : Int) != 1) = true := by simp; omega
      go_enter Tryz.func52, Tryz.ntmps52
      go_wp2_with fail
      refine (right_any _ _ _).mono ?_
      rintro x w1 ⟨rfl, rfl⟩
      rw [hr]
      go_wp2_with fail
      refine (fault_any _ _ _).mono ?_; rintro e wf ⟨⟨b, rfl, hf⟩, hqf⟩; go_wp2_with fail; go_ret3
      exact ⟨_, rfl, .inr ⟨by decide, b, rfl, hf⟩, hqf⟩

set_option maxRecDepth 100000 in
set_option maxHeartbeats 2000000 in
theorem Unpack_bad2 (s : List UInt8) (e n : Int) (w : World) (hl : s.length ≤ 281474976710656) (hr : rightB e n = true) (h24 : 24 ≤ s.length) (h1 : (gB s 0).toNat = 1)
    (h : 60000 < nAt s 4 ∨ s.length < endsN (nAt s 4)) :
    Calls Tryz.prog 52 #[.string ⟨s.toArray⟩, .int .i64 e, .int .i64 n] w fun x w' =>
      ∃ ev, x = .returned (.tuple #[.string ⟨#[]⟩, .int .i64 0, ev]) ∧ ErrIs w' ev 20 0 ∧ Q w w' := by
  obtain ⟨e0, e1, n0, n1⟩ := right_spec hr
  have b1 : (((gB s 0).toNat : Int) != 1) = false := by simp [h1]
  have d0 : decide ((s.length : Int) < 24) = false := by simp; omega
  have l1 : ∀ k, (U32 k).length = 4 := length_U32
  clear h1
  have hn4 := nAt_r32 s 4
  have HN := Lib.hid hn4
  clear hn4
  by_cases hN : 60000 < nAt s 4
  · have d1 : decide (60000 < (nAt s 4 : Int)) = true := by simp; omega
    clear h
    go_enter Tryz.func52, Tryz.ntmps52; go_wp2_with fail; refine (right_any _ _ _).mono ?_; rintro x w1 ⟨rfl, rfl⟩; rw [hr]; go_wp2_with fail; refine (read32_any _ _ (by rw [length_sub]; omega)).mono ?_; rintro x w1 ⟨rfl, hq1⟩; rw [HN.out]; go_wp2_with fail; refine wp_region_q (by kernel_rfl) (by kernel_rfl) ?_; (repeat (go_big_quiet_step (first | (go_at_call 64; exact calls_qs (ends_any _ _ (by omega) (by omega))) | (go_at_call 60; exact calls_q (u32_any _ _ (by omega) (by omega))) | (go_at_call 78; exact calls_q (read32_any _ _ (by rw [length_sub]; omega))) | (go_at_call 62; exact calls_qs (Sum_any _ _ (by rw [length_sub]; omega))) | (go_at_call 61; exact calls_qs (More_any _ _ _ (by rw [length_sub]; omega)))))); refine wpQuiet_nil ?_; rintro _ ⟨⟨w2, hq2⟩, rfl⟩; go_wp2_with fail; refine (fault_any _ _ _).mono ?_; rintro e wf ⟨⟨b, rfl, hf⟩, hqf⟩; go_wp2_with fail; go_ret3; exact ⟨_, rfl, .inr ⟨by decide, b, rfl, hf⟩, (hq1.trans hq2).trans hqf⟩
  · have d1 : decide (60000 < (nAt s 4 : Int)) = false := by simp; omega
    have hE : (s.length : Int) < endsN (nAt s 4) := by omega
    have d2 : decide ((s.length : Int) < endsN (nAt s 4)) = true := by simp; omega
    clear h
    go_enter Tryz.func52, Tryz.ntmps52; go_wp2_with fail; refine (right_any _ _ _).mono ?_; rintro x w1 ⟨rfl, rfl⟩; rw [hr]; go_wp2_with fail; refine (read32_any _ _ (by rw [length_sub]; omega)).mono ?_; rintro x w1 ⟨rfl, hq1⟩; rw [HN.out]; go_wp2_with fail; refine wp_region_q (by kernel_rfl) (by kernel_rfl) ?_; (repeat (go_big_quiet_step (first | (go_at_call 64; exact calls_qs (ends_any _ _ (by omega) (by omega))) | (go_at_call 60; exact calls_q (u32_any _ _ (by omega) (by omega))) | (go_at_call 78; exact calls_q (read32_any _ _ (by rw [length_sub]; omega))) | (go_at_call 62; exact calls_qs (Sum_any _ _ (by rw [length_sub]; omega))) | (go_at_call 61; exact calls_qs (More_any _ _ _ (by rw [length_sub]; omega)))))); refine wpQuiet_nil ?_; rintro _ ⟨⟨w2, hq2⟩, rfl⟩; go_wp2_with fail; refine (fault_any _ _ _).mono ?_; rintro e wf ⟨⟨b, rfl, hf⟩, hqf⟩; go_wp2_with fail; go_ret3; exact ⟨_, rfl, .inr ⟨by decide, b, rfl, hf⟩, (hq1.trans hq2).trans hqf⟩
set_option maxRecDepth 100000 in
set_option maxHeartbeats 2000000 in
theorem Unpack_bad3 (s : List UInt8) (e n : Int) (w : World) (hl : s.length ≤ 281474976710656) (hr : rightB e n = true) (h24 : 24 ≤ s.length) (h1 : (gB s 0).toNat = 1)
    (hN : nAt s 4 ≤ 60000) (hE : endsN (nAt s 4) ≤ s.length)
    (h : sub s 8 20 ≠ tailL e n ∨ r32 (sub s 20 s.length) ≠ ((uCrc s).toNat : Int)) :
    Calls Tryz.prog 52 #[.string ⟨s.toArray⟩, .int .i64 e, .int .i64 n] w fun x w' =>
      ∃ ev, x = .returned (.tuple #[.string ⟨#[]⟩, .int .i64 0, ev]) ∧ ErrIs w' ev 20 0 ∧ Q w w' := by
  obtain ⟨e0, e1, n0, n1⟩ := right_spec hr
  have b1 : (((gB s 0).toNat : Int) != 1) = false := by simp [h1]
  have d0 : decide ((s.length : Int) < 24) = false := by simp; omega
  have d1 : decide (60000 < (nAt s 4 : Int)) = false := by simp; omega
  have d2 : decide ((s.length : Int) < endsN (nAt s 4)) = false := by simp; omega
  have hE2 : 24 + (nAt s 4 : Int) ≤ endsN (nAt s 4) := by unfold endsN; omega
  have c1 := (crcMore (crcSum (sub s 4 20)) (sub s 24 (24 + nAt s 4))).isLt
  have l1 : ∀ k, (U32 k).length = 4 := length_U32
  have ht : (24 + (nAt s 4 : Int)).toNat = 24 + nAt s 4 := by omega
  clear h1
  have hn4 := nAt_r32 s 4
  have HN := Lib.hid hn4
  clear hn4
  by_cases hT : sub s 8 20 = tailL e n
  · have hC := h.resolve_left (fun x => x hT)
    have b2 : (sub s 8 20 == U32 n ++ (U32 (e / 4294967296) ++ U32 e)) = true := by simpa [tailL] using hT
    have b3 : (r32 (sub s 20 s.length) != ((crcMore (crcSum (sub s 4 20)) (sub s 24 (24 + nAt s 4))).toNat : Int)) = true := by simpa [uCrc] using hC
    clear h hT hC
    go_enter Tryz.func52, Tryz.ntmps52; go_wp2_with fail; refine (right_any _ _ _).mono ?_; rintro x w1 ⟨rfl, rfl⟩; rw [hr]; go_wp2_with fail; refine (read32_any _ _ (by rw [length_sub]; omega)).mono ?_; rintro x w1 ⟨rfl, hq1⟩; rw [HN.out]; go_wp2_with fail; refine wp_region_q (by kernel_rfl) (by kernel_rfl) ?_; (repeat (go_big_quiet_step (first | (go_at_call 64; exact calls_qs (ends_any _ _ (by omega) (by omega))) | (go_at_call 60; exact calls_q (u32_any _ _ (by omega) (by omega))) | (go_at_call 78; exact calls_q (read32_any _ _ (by rw [length_sub]; omega))) | (go_at_call 62; exact calls_qs (Sum_any _ _ (by rw [length_sub]; omega))) | (go_at_call 61; exact calls_qs (More_any _ _ _ (by rw [length_sub]; omega)))))); refine wpQuiet_nil ?_; rintro _ ⟨⟨w2, hq2⟩, rfl⟩; go_wp2_with fail; refine (fault_any _ _ _).mono ?_; rintro e wf ⟨⟨b, rfl, hf⟩, hqf⟩; go_wp2_with fail; go_ret3; exact ⟨_, rfl, .inr ⟨by decide, b, rfl, hf⟩, (hq1.trans hq2).trans hqf⟩
  · have b2 : (sub s 8 20 == U32 n ++ (U32 (e / 4294967296) ++ U32 e)) = false := by simpa [tailL] using hT
    clear h hT
    go_enter Tryz.func52, Tryz.ntmps52; go_wp2_with fail; refine (right_any _ _ _).mono ?_; rintro x w1 ⟨rfl, rfl⟩; rw [hr]; go_wp2_with fail; refine (read32_any _ _ (by rw [length_sub]; omega)).mono ?_; rintro x w1 ⟨rfl, hq1⟩; rw [HN.out]; go_wp2_with fail; refine wp_region_q (by kernel_rfl) (by kernel_rfl) ?_; (repeat (go_big_quiet_step (first | (go_at_call 64; exact calls_qs (ends_any _ _ (by omega) (by omega))) | (go_at_call 60; exact calls_q (u32_any _ _ (by omega) (by omega))) | (go_at_call 78; exact calls_q (read32_any _ _ (by rw [length_sub]; omega))) | (go_at_call 62; exact calls_qs (Sum_any _ _ (by rw [length_sub]; omega))) | (go_at_call 61; exact calls_qs (More_any _ _ _ (by rw [length_sub]; omega)))))); refine wpQuiet_nil ?_; rintro _ ⟨⟨w2, hq2⟩, rfl⟩; go_wp2_with fail; refine (fault_any _ _ _).mono ?_; rintro e wf ⟨⟨b, rfl, hf⟩, hqf⟩; go_wp2_with fail; go_ret3; exact ⟨_, rfl, .inr ⟨by decide, b, rfl, hf⟩, (hq1.trans hq2).trans hqf⟩
theorem Unpack_bad (s : List UInt8) (e n : Int) (w : World) (hl : s.length ≤ 281474976710656) (h : ¬ UnpOk s e n) :
    Calls Tryz.prog 52 #[.string ⟨s.toArray⟩, .int .i64 e, .int .i64 n] w fun x w' =>
      ∃ ev, x = .returned (.tuple #[.string ⟨#[]⟩, .int .i64 0, ev]) ∧ ErrIs w' ev 20 0 ∧ Q w w' := by
  by_cases h1 : rightB e n = true ∧ 24 ≤ s.length ∧ (gB s 0).toNat = 1
  · obtain ⟨hr, h24, h1⟩ := h1
    by_cases h2 : nAt s 4 ≤ 60000 ∧ endsN (nAt s 4) ≤ s.length
    · refine Unpack_bad3 s e n w hl hr h24 h1 h2.1 h2.2 ?_
      by_cases h3 : sub s 8 20 = tailL e n
      · exact .inr fun h4 => h ⟨hr, h24, h1, h2.1, h2.2, h3, h4⟩
      · exact .inl h3
    · exact Unpack_bad2 s e n w hl hr h24 h1 (by omega)
  · refine Unpack_bad1 s e n w hl ?_
    by_cases h2 : rightB e n = false
    · exact .inl h2
    · have h2 : rightB e n = true := by simpa using h2
      by_cases h3 : s.length < 24
      · exact .inr (.inl h3)
      · exact .inr (.inr fun h4 => h1 ⟨h2, by omega, h4⟩)
end Go.Proofs.YtcbepjepcabllaaGreatDoor
/- Plain laws of records: what was packed is a record. -/
set_option linter.unusedVariables false
namespace Go.Proofs.YtcbepjepcabllaaGreatDoor
open Go Go.RowKit
theorem sub_right (a b : List UInt8) (i j : Nat) (h : a.length ≤ i) : sub (a ++ b) i j = sub b (i - a.length) (j - a.length) := by
  unfold sub
  rcases Nat.le_total a.length j with hj | hj
  · rw [List.take_append, List.take_of_length_le hj, List.drop_append, List.drop_eq_nil_of_le h, List.nil_append]
  · have e1 : j - a.length = 0 := by omega
    rw [e1, List.take_zero, List.drop_nil]
    refine List.drop_eq_nil_of_le ?_
    rw [List.length_take]; omega
theorem sub_left (a b : List UInt8) (j : Nat) (h : j = a.length) : sub (a ++ b) 0 j = a := by
  subst h; unfold sub; simp
theorem sub_drop (l : List UInt8) (i : Nat) : sub l i l.length = l.drop i := by unfold sub; simp
theorem r32_U32 (n : Int) (post : List UInt8) (h0 : 0 ≤ n) (h1 : n < 4294967296) : r32 (U32 n ++ post) = n := by
  have e0 : gB (U32 n ++ post) 0 = byteOf (n / 16777216 % 256) := rfl
  have e1 : gB (U32 n ++ post) 1 = byteOf (n / 65536 % 256) := rfl
  have e2 : gB (U32 n ++ post) 2 = byteOf (n / 256 % 256) := rfl
  have e3 : gB (U32 n ++ post) 3 = byteOf (n % 256) := rfl
  unfold r32
  rw [e0, e1, e2, e3, byteOf_int _ (by omega) (by omega), byteOf_int _ (by omega) (by omega), byteOf_int _ (by omega) (by omega), byteOf_int _ (by omega) (by omega)]
  omega
theorem nAt_U32 (a post : List UInt8) (n k : Nat) (hk : k = a.length) (h1 : n < 4294967296) : nAt (a ++ (U32 n ++ post)) k = n := by
  subst hk
  unfold nAt
  rw [sub_drop, List.drop_left, r32_U32 _ _ (by omega) (by omega)]
  omega

/-- What was packed is a record, whatever stands behind. -/
theorem packL_length (e n : Int) (p : List UInt8) : ((packL e n p).length : Int) = endsN p.length := by
  unfold packL
  simp only [List.length_append, hdL_length, length_U32, length_zL, List.length_cons, List.length_nil]
  unfold endsN
  omega
theorem packL_unp (e n : Int) (p b : List UInt8) (hr : rightB e n = true) (hp : p.length ≤ 60000) :
    UnpOk (packL e n p ++ b) e n ∧ nAt (packL e n p ++ b) 4 = p.length ∧ sub (packL e n p ++ b) 24 (24 + p.length) = p := by
  obtain ⟨e0, e1, n0, n1⟩ := right_spec hr
  have c1 := (crcMore (crcSum (hdL e n p)) p).isLt
  obtain ⟨z, hz⟩ : ∃ z, z = zL ((endsN p.length).toNat - (24 + p.length)) ++ b := ⟨_, rfl⟩
  have hlen : (packL e n p ++ b).length = (packL e n p).length + b.length := List.length_append
  have hpl := packL_length e n p
  have hE : 24 + (p.length : Int) ≤ endsN p.length := by unfold endsN; omega
  have s1 : packL e n p ++ b = [1, 0, 0, 0] ++ (U32 p.length ++ (tailL e n ++ (U32 ((crcMore (crcSum (hdL e n p)) p).toNat : Int) ++ (p ++ z)))) := by
    rw [hz]; unfold packL hdL tailL; simp
  have s2 : packL e n p ++ b = ([1, 0, 0, 0] ++ U32 p.length) ++ (tailL e n ++ (U32 ((crcMore (crcSum (hdL e n p)) p).toNat : Int) ++ (p ++ z))) := by rw [s1]; simp
  have s3 : packL e n p ++ b = ([1, 0, 0, 0] ++ hdL e n p) ++ (U32 ((crcMore (crcSum (hdL e n p)) p).toNat : Int) ++ (p ++ z)) := by rw [s1]; unfold hdL tailL; simp
  have s4 : packL e n p ++ b = ([1, 0, 0, 0] ++ hdL e n p ++ U32 ((crcMore (crcSum (hdL e n p)) p).toNat : Int)) ++ (p ++ z) := by rw [s3]; simp
  have s5 : packL e n p ++ b = [1, 0, 0, 0] ++ (hdL e n p ++ (U32 ((crcMore (crcSum (hdL e n p)) p).toNat : Int) ++ (p ++ z))) := by rw [s3]; simp
  have hn : nAt (packL e n p ++ b) 4 = p.length := by rw [s1]; exact nAt_U32 _ _ _ _ rfl (by omega)
  have h8 : sub (packL e n p ++ b) 8 20 = tailL e n := by
    rw [s2, sub_right _ _ _ _ (by simp [length_U32])]
    have : ([1, 0, 0, 0] ++ U32 p.length).length = 8 := rfl
    rw [this]
    exact sub_left _ _ _ rfl
  have h4 : sub (packL e n p ++ b) 4 20 = hdL e n p := by
    rw [s5, sub_right _ _ _ _ (by simp)]
    exact sub_left _ _ _ rfl
  have h24 : sub (packL e n p ++ b) 24 (24 + p.length) = p := by
    rw [s4, sub_right _ _ _ _ (by simp [hdL_length, length_U32])]
    have : ([1, 0, 0, 0] ++ hdL e n p ++ U32 ((crcMore (crcSum (hdL e n p)) p).toNat : Int)).length = 24 := rfl
    rw [this]
    rw [show 24 - 24 = 0 from rfl]
    exact sub_left _ _ _ (by omega)
  have h20 : r32 (sub (packL e n p ++ b) 20 (packL e n p ++ b).length) = ((crcMore (crcSum (hdL e n p)) p).toNat : Int) := by
    rw [sub_drop]
    have : ([1, 0, 0, 0] ++ hdL e n p).length = 20 := rfl
    conv => lhs; rw [s3, ← this, List.drop_left]
    exact r32_U32 _ _ (by omega) (by omega)
  refine ⟨⟨hr, by omega, by rw [s1]; rfl, by rw [hn]; exact hp, by rw [hn]; omega, h8, ?_⟩, hn, h24⟩
  rw [h20]
  unfold uCrc
  rw [h4, hn, h24]
end Go.Proofs.YtcbepjepcabllaaGreatDoor
/- A journal's begin and Format. -/
set_option linter.unusedVariables false
set_option linter.unusedSimpArgs false
namespace Go.Proofs.YtcbepjepcabllaaGreatDoor
open Go Go.RowKit
set_option maxHeartbeats 400000 in
theorem jfault_any (c : Int) (w : World) (hc : c ≠ 0) :
    Calls Tryz.prog 46 #[.int .i64 c] w fun e w' => (∃ v, e = .returned v ∧ ErrIs w' v c 0) ∧ Q w w' := by
  go_enter Tryz.func46, Tryz.ntmps46
  go_wp2
  go_ret
  exact ⟨⟨_, rfl, .inr ⟨hc, w.heap.size, rfl, (MapKept.heap_alloc w _).1⟩⟩, (Q.refl _).alloc _⟩
/-- One of the journal's own cells written. -/
theorem JD.set {w0 w : World} {bj bd bp gh : Nat} {j j' : JrnS} {d : DskS} (h : JD w0 w bj bd bp gh j d) (i : Nat) (v : Value) (hj : JAt (w.setCell ⟨bj, i, none⟩ v) bj bd j') : JD w0 (w.setCell ⟨bj, i, none⟩ v) bj bd bp gh j' d ∧ K w0 [bj] w (w.setCell ⟨bj, i, none⟩ v) :=
  ⟨⟨hj, h.d.gb (gb_setCell w bj i v) (by rw [elemT_of h.j]; decide), h.n⟩, K.gb (gb_setCell w bj i v) h.n (.inl (by simp))⟩
theorem JAt.set4 {w : World} {bj bd : Nat} {j : JrnS} (h : JAt w bj bd j) (x : Nat) : JAt (w.setCell ⟨bj, 4, none⟩ (.int .i64 (x : Int))) bj bd { j with epoch := x } := by unfold JAt; rw [heap_setCell_any w bj 4 _ _ _ _ h]; rfl
theorem JAt.set5 {w : World} {bj bd : Nat} {j : JrnS} (h : JAt w bj bd j) (x : Nat) : JAt (w.setCell ⟨bj, 5, none⟩ (.int .i64 (x : Int))) bj bd { j with many := x } := by unfold JAt; rw [heap_setCell_any w bj 5 _ _ _ _ h]; rfl
theorem JAt.set6 {w : World} {bj bd : Nat} {j : JrnS} (h : JAt w bj bd j) (x : Nat) : JAt (w.setCell ⟨bj, 6, none⟩ (.int .i64 (x : Int))) bj bd { j with next := x } := by unfold JAt; rw [heap_setCell_any w bj 6 _ _ _ _ h]; rfl
theorem JAt.set3 {w : World} {bj bd : Nat} {j : JrnS} (h : JAt w bj bd j) (x : Bool) : JAt (w.setCell ⟨bj, 3, none⟩ (.bool x)) bj bd { j with second := x } := by unfold JAt; rw [heap_setCell_any w bj 3 _ _ _ _ h]; rfl
def jrn0 (f half : Nat) : JrnS := ⟨f, half, false, 0, 0, 1, false⟩
set_option maxHeartbeats 2000000 in
theorem begin_ok {w0 w : World} {bd bp gh : Nat} {d : DskS} (f half : Nat) (h : DAt w0 w bd bp gh d) (hh : 2 ≤ half) (hn : f + 2 * half ≤ d.n) (h0 : w0.heap.size ≤ w.heap.size) :
    Calls Tryz.prog 30 #[.pointer (some ⟨bd, 0, none⟩), .int .i64 (f : Int), .int .i64 ((2 * half : Nat) : Int)] w fun e w' => (∃ bj, e = .returned (.tuple #[.pointer (some ⟨bj, 0, none⟩), .nilIface]) ∧ JD w0 w' bj bd bp gh (jrn0 f half) d ∧ w.heap.size ≤ bj) ∧ Q w w' := by
  have HS := Lib.hid (Sectors_dk h)
  have HD := Lib.hid h
  have h8 := h.ok.most
  obtain ⟨n, hnn⟩ : ∃ n, d.n = n := ⟨_, rfl⟩
  obtain ⟨s, hs⟩ : ∃ s, s = 2 * half := ⟨_, rfl⟩
  rw [hnn] at HS hn h8
  rw [← hs] at hn ⊢
  have g2 : decide ((s : Int) < 4) = false := by simp; omega
  have g3 : ((s : Int) % 2 != 0) = false := by simp; omega
  have g4 : decide (n < s) = false := by simp; omega
  have g5 : decide ((n : Int) - (s : Int) < (f : Int)) = false := by simp; omega
  have e5 : (s : Int) / 2 = (half : Int) := by omega
  have b1 : (n : Int) ≤ 8192 := by omega
  have b2 : (s : Int) ≤ (n : Int) := by omega
  have hb : (w.alloc (.cells #[.pointer (some ⟨bd, 0, none⟩), .int .i64 (f : Int), .int .i64 (half : Int), .bool false, .int .i64 0, .int .i64 0, .int .i64 1, .bool false] 73)).heap[w.heap.size]? = some (.cells #[.pointer (some ⟨bd, 0, none⟩), .int .i64 (f : Int), .int .i64 (half : Int), .bool false, .int .i64 0, .int .i64 0, .int .i64 1, .bool false] 73 (0, 0)) := (MapKept.heap_alloc w _).1
  have hq : Q w (w.alloc (.cells #[.pointer (some ⟨bd, 0, none⟩), .int .i64 (f : Int), .int .i64 (half : Int), .bool false, .int .i64 0, .int .i64 0, .int .i64 1, .bool false] 73)) := (Q.refl _).alloc _
  have HJ := Lib.hid (JD.mk (w0 := w0) (j := jrn0 f half) hb (HD.out.q hq) h0)
  have HQ := Lib.hid hq
  clear h hnn hs hb hq hn h8 hh
  go_enter Tryz.func30, Tryz.ntmps30
  go_wp2_with fail
  refine HS.out.mono ?_
  rintro e w1 ⟨rfl, rfl⟩
  go_wp2_with fail
  refine HS.out.mono ?_
  rintro e w1 ⟨rfl, rfl⟩
  go_wp2_with fail
  go_ret2
  exact ⟨⟨_, rfl, HJ.out, Nat.le_refl _⟩, HQ.out⟩
theorem K.drop {w0 : World} {S : List Nat} {a b : World} (h : K w0 S a b) (hs : ∀ k ∈ S, a.heap.size ≤ k) : K w0 [] a b := ⟨h.os, h.tape, h.output, h.size, fun k hk _ hd => h.block k hk (fun hm => by have := hs k hm; omega) hd⟩
def magicL : List UInt8 := [106, 111, 117, 114, 110, 97, 108]
/-- The head of a half. -/
def headL (e : Nat) : List UInt8 := packL (e : Int) 0 magicL
theorem headL_len (e : Nat) : (headL e).length = 64 := by
  have h := packL_length (e : Int) 0 magicL
  have : endsN (magicL.length : Nat) = 64 := by decide
  unfold headL; omega
def formatR (f half : Nat) (d : DskS) : DskS × Int := bindE (cleanJ (jrn0 f half) true 0 d) (layJ { jrn0 f half with epoch := 1 } false 0 1 (headL 1))
set_option maxRecDepth 100000 in
set_option maxHeartbeats 4000000 in
theorem Format_ok {w0 w : World} {bd bp gh : Nat} {d : DskS} (f half : Nat) (h : DAt w0 w bd bp gh d) (hh : 2 ≤ half) (hn : f + 2 * half ≤ d.n) (h0 : w0.heap.size ≤ w.heap.size) (hw : d.wait.length ≤ 900000) (hr : (formatR f half d).2 = 0) :
    Calls Tryz.prog 10 #[.pointer (some ⟨bd, 0, none⟩), .int .i64 (f : Int), .int .i64 ((2 * half : Nat) : Int)] w fun e w' => (∃ bj, e = .returned (.tuple #[.pointer (some ⟨bj, 0, none⟩), .nilIface]) ∧ JD w0 w' bj bd bp gh { jrn0 f half with epoch := 1 } (formatR f half d).1 ∧ w.heap.size ≤ bj) ∧ K w0 [] w w' := by
  have HB := Lib.hid (begin_ok f half h hh hn h0)
  have hb1 : f + half + 1 ≤ 1000000 := by have := h.ok.most; omega
  obtain ⟨R, hR⟩ : ∃ R, formatR f half d = R := ⟨_, rfl⟩
  rw [hR] at hr ⊢
  have HZ := Lib.hid hr
  have HR := Lib.hid hR
  unfold formatR at HR
  obtain ⟨s, hs⟩ : ∃ s, s = 2 * half := ⟨_, rfl⟩
  rw [← hs] at HB ⊢
  clear h hs hr hn hh hR
  go_enter Tryz.func10, Tryz.ntmps10
  go_wp2_with fail
  refine HB.out.mono ?_
  rintro e w1 ⟨⟨bj, rfl, hj1, hbj⟩, hq1⟩
  have HJ1 := Lib.hid hj1
  have HQ1 := Lib.hid hq1
  have h01 := Nat.le_trans h0 hq1.size
  clear hj1 hq1 HB
  go_wp2_with fail
  have hcw := clean_wait (jrn0 f half) true 0 d
  refine (clean_any true 0 HJ1.out (by unfold jrn0; simp only; omega) (by omega) h01).mono ?_
  rintro e w2 ⟨⟨v, rfl, hv⟩, hd, hk⟩
  obtain ⟨r1, hr1⟩ : ∃ r, cleanJ (jrn0 f half) true 0 d = r := ⟨_, rfl⟩
  rw [hr1] at hv hd hcw HR
  have HD2 := Lib.hid hd
  have HK2 := Lib.hid ((K.q (w0 := w0) (S := []) HQ1.out).trans hk)
  have h02 := Nat.le_trans h01 hk.size
  have HKJ := Lib.hid hk
  clear hd hk HJ1
  rcases hv with ⟨hc, rfl⟩ | ⟨hc, b, rfl, hf⟩
  case inr =>
    rw [bindE_no hc] at HR
    exact absurd HZ.out (by rw [← HR.out]; exact hc)
  rw [bindE_ok hc] at HR
  clear hc hr1
  have c4 := HD2.out.j.c4
  have f4 := HD2.out.j.fz 4
  obtain ⟨hs1, hs2⟩ := HD2.out.set 4 (.int .i64 ((1 : Nat) : Int)) (HD2.out.j.set4 1)
  go_upto_region 8 with (fail)
  obtain ⟨W3, hW3⟩ : ∃ W, w2.setCell ⟨bj, 4, none⟩ (.int .i64 ((1 : Nat) : Int)) = W := ⟨_, rfl⟩
  have hW3b : w2.setCell ⟨bj, 4, none⟩ (.int .i64 1) = W3 := hW3
  rw [hW3] at hs1 hs2
  rw [hW3b]
  have HD3 := Lib.hid hs1
  have HK3 := Lib.hid ((HK2.out.mono (S' := [bj]) (by simp)).trans hs2)
  have h03 := Nat.le_trans h02 hs2.size
  clear hs1 hs2 hW3 hW3b c4 f4 HD2 HK2 HKJ
  have hPk : Calls Tryz.prog 33 #[.int .i64 1, .int .i64 0, .string ⟨#[106, 111, 117, 114, 110, 97, 108]⟩] W3 _ := Pack_ok 1 0 magicL W3 (by decide) (by decide)
  go_wp2_with fail
  refine hPk.mono ?_
  rintro e w4 ⟨rfl, hq4⟩
  clear hPk
  have HD4 := Lib.hid (HD3.out.q hq4)
  have HK4 := Lib.hid (HK3.out.trans (K.q hq4))
  have h04 := Nat.le_trans h03 hq4.size
  have hh : packL 1 0 magicL = headL 1 := rfl
  rw [hh]
  clear hh hq4 HD3 HK3
  go_wp2_with fail
  refine (lay_any false 0 1 (headL 1) HD4.out (headL_len 1) (by omega) (by unfold jrn0; simp only; omega) (by omega) h04).mono ?_
  rintro e w5 ⟨⟨v, rfl, hv⟩, hd, hk⟩
  obtain ⟨r2, hr2⟩ : ∃ r, layJ { jrn0 f half with epoch := 1 } false 0 1 (headL 1) r1.1 = r := ⟨_, rfl⟩
  have hv : ErrIs w5 v (layJ { jrn0 f half with epoch := 1 } false 0 1 (headL 1) r1.1).2 0 := hv
  have hd : JD w0 w5 bj bd bp gh { jrn0 f half with epoch := 1 } (layJ { jrn0 f half with epoch := 1 } false 0 1 (headL 1) r1.1).1 := hd
  rw [hr2] at hv hd HR
  have HD5 := Lib.hid hd
  have HK5 := Lib.hid (HK4.out.trans (hk.mono (by simp)))
  clear hd hk HD4 HK4 hr2
  rcases hv with ⟨hc, rfl⟩ | ⟨hc, b, rfl, hf⟩
  case inr => exact absurd HZ.out (by rw [← HR.out]; exact hc)
  clear hc
  go_wp2_with fail
  go_ret2
  exact ⟨⟨bj, rfl, by rw [← HR.out]; exact HD5.out, hbj⟩, HK5.out.drop (by intro k hk; rw [List.mem_singleton.1 hk]; exact hbj)⟩
end Go.Proofs.YtcbepjepcabllaaGreatDoor
