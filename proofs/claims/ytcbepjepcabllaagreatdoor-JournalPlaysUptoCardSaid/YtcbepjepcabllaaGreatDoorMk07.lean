/- Texts of this proof, laid into one: JnH, JnI, JnJ, JnK, JnL. -/
import Derived.Test.YtcbepjepcabllaaGreatDoorMk06
/- A journal's anew. -/
set_option linter.unusedVariables false
set_option linter.unusedSimpArgs false
namespace Go.Proofs.YtcbepjepcabllaaGreatDoor
open Go Go.RowKit
/-- A slice of texts in a block of texts. -/
def StrS (w : World) (v : Value) (ls : List (List UInt8)) : Prop := ∃ A cap, v = .slice A ls.length cap ∧ StrsAt w A ls.length ls ∧ ∀ ad, A = some ad → elemT w ad.block = some 9 ∧ ad.block < w.heap.size
theorem elemT_heap {w w' : World} {k : Nat} (h : w'.heap[k]? = w.heap[k]?) : elemT w' k = elemT w k := by unfold elemT; rw [h]
theorem cell_heap {w w' : World} {a : Addr} (h : w'.heap[a.block]? = w.heap[a.block]?) : w'.cell? a = w.cell? a := by unfold World.cell?; rw [h]
theorem add_block (a : Addr) (i : Nat) : (a.add i).block = a.block := by unfold Addr.add; split <;> rfl
theorem StrS.heap {w w' : World} {v : Value} {ls : List (List UInt8)} (h : StrS w v ls) (hs : w.heap.size ≤ w'.heap.size) (hh : ∀ k, k < w.heap.size → elemT w k = some 9 → w'.heap[k]? = w.heap[k]?) : StrS w' v ls := by
  obtain ⟨A, cap, hv, ⟨h1, h2⟩, h3⟩ := h
  refine ⟨A, cap, hv, ⟨h1, fun h0 => ?_⟩, fun ad e => ?_⟩
  · obtain ⟨ad, e, hc⟩ := h2 h0
    refine ⟨ad, e, fun i hi => ?_⟩
    have e1 : w'.cell? (ad.add i) = w.cell? (ad.add i) := cell_heap (by rw [add_block]; exact hh _ (h3 ad e).2 (h3 ad e).1)
    exact e1.trans (hc i hi)
  · obtain ⟨e1, e2⟩ := h3 ad e
    exact ⟨by rw [elemT_heap (hh _ e2 e1)]; exact e1, by omega⟩
theorem StrS.q {w w' : World} {v : Value} {ls : List (List UInt8)} (h : StrS w v ls) (hq : Q w w') : StrS w' v ls := h.heap hq.size fun k hk _ => Below.block hq k hk
theorem StrS.k {w0 w w' : World} {v : Value} {ls : List (List UInt8)} (h : StrS w v ls) (hk : K w0 [] w w') : StrS w' v ls := h.heap hk.size fun k h1 h2 => hk.block k h1 (by simp) (.inr (by rw [h2]; decide))
theorem StrS.kj {w0 w w' : World} {v : Value} {ls : List (List UInt8)} {bj bd : Nat} {j : JrnS} (h : StrS w v ls) (hk : K w0 [bj] w w') (hj : JAt w bj bd j) : StrS w' v ls :=
  h.heap hk.size fun k h1 h2 => hk.block k h1 (by
    intro e
    rw [List.mem_singleton.1 e, elemT_of hj] at h2; revert h2; decide) (.inr (by rw [h2]; decide))
theorem OwnS.toS {w0 w : World} {v : Value} {ls : List (List UInt8)} (h : OwnS 9 w0 w v (ls.map strV)) : StrS w v ls := by
  obtain ⟨A, cap, hv, h1, h2, hs⟩ := h.strs
  refine ⟨A, cap, hv, hs, fun ad e => ?_⟩
  have hb : v.ownBlock = some ad.block := by
    rcases h.2 with ⟨e1, _⟩ | ⟨g, cp, cur, e1, _⟩
    · rw [hv, e] at e1; cases e1
    · rw [hv, e] at e1; injection e1 with e1 _ _; injection e1 with e1; rw [hv, e, e1]; rfl
  have := OwnS.type h hb
  refine ⟨this.2, ?_⟩
  rcases h.2 with ⟨e1, _⟩ | ⟨g, cp, cur, e1, _, hh, _⟩
  · rw [hv, e] at e1; cases e1
  · rw [hv, e] at e1; injection e1 with e1 _ _; injection e1 with e1; rw [e1]; exact lt_of_heap hh
def wrAll (j : JrnS) (sec : Bool) : Nat → List (List UInt8) → DskS → DskS × Int
  | _, [], d => (d, 0)
  | k, s :: r, d => bindE (wrJ j sec (s.length / 64) k s d) (wrAll j sec (k + s.length / 64) r)
def sumM (ls : List (List UInt8)) : Nat := (ls.map (·.length / 64)).sum
theorem sumM_cons (s : List UInt8) (r : List (List UInt8)) : sumM (s :: r) = s.length / 64 + sumM r := by simp [sumM]
theorem wrAll_wait (j : JrnS) (sec : Bool) (ls : List (List UInt8)) : ∀ (k : Nat) (d : DskS), (wrAll j sec k ls d).1.wait.length ≤ d.wait.length + sumM ls := by
  induction ls with
  | nil => intro k d; exact Nat.le_add_right _ _
  | cons s r ih =>
    intro k d
    rw [sumM_cons]
    unfold wrAll
    have h1 := wr_wait j sec (s.length / 64) k s d
    by_cases hz : (wrJ j sec (s.length / 64) k s d).2 = 0
    · rw [bindE_ok hz]
      have := ih (k + s.length / 64) (wrJ j sec (s.length / 64) k s d).1
      omega
    · rw [bindE_no hz]; omega
def anewJ (j : JrnS) (ls : List (List UInt8)) (d : DskS) : DskS × Int :=
  bindE (wrAll j (!j.second) 1 ls d) fun d1 => bindE (cleanJ j (!j.second) (1 + sumM ls) d1) fun d2 => bindE (wrJ j (!j.second) 1 0 (unmarkL (headL (j.epoch + 1))) d2) fun d3 => bindE (flushR d3) fun d4 => bindE (wrJ j (!j.second) 1 0 (headL (j.epoch + 1)) d4) flushR
set_option maxRecDepth 100000 in
set_option maxHeartbeats 4000000 in
theorem anew_any {w0 w : World} {bj bd bp gh : Nat} {j : JrnS} {d : DskS} (v : Value) (ls : List (List UInt8)) (h : JD w0 w bj bd bp gh j d) (hs : StrS w v ls) (hl : ∀ s ∈ ls, s.length = 64 * (s.length / 64) ∧ s.length / 64 ≤ 10000) (ho : j.Ok) (he : j.epoch < 4611686018427387904) (hm : sumM ls + 1 ≤ j.half) (hll : ls.length ≤ 100000) (hw : d.wait.length ≤ 900000) (h0 : w0.heap.size ≤ w.heap.size) :
    Calls Tryz.prog 53 #[.pointer (some ⟨bj, 0, none⟩), v] w fun e w' => (∃ v, e = .returned v ∧ ErrIs w' v (anewJ j ls d).2 0) ∧ JD w0 w' bj bd bp gh j (anewJ j ls d).1 ∧ K w0 [] w w' := by
  have HJ := Lib.hid h
  have HS := Lib.hid hs
  have HL := Lib.hid hl
  have ho1 := ho.place
  have hlz : (ls.length : Int) ≤ 100000 := by omega
  obtain ⟨R, hR⟩ : ∃ R, anewJ j ls d = R := ⟨_, rfl⟩
  have HR := Lib.hid hR
  rw [hR]
  unfold anewJ at HR
  have HO := Lib.hid ho
  obtain ⟨A, cap, rfl, hst, hty⟩ := hs
  obtain ⟨N, hN⟩ : ∃ N, ls.length = N := ⟨_, rfl⟩
  have HN := Lib.hid hN
  rw [hN] at hll hlz HS ⊢
  obtain ⟨sec, hsec⟩ : ∃ sec, (!j.second) = sec := ⟨_, rfl⟩
  rw [hsec] at HR
  have HSEC := Lib.hid hsec
  have HM := Lib.hid hm
  clear h hl hR ho hst hty hN hsec hm
  go_enter Tryz.func53, Tryz.ntmps53
  go_wp2_with fail
  go_loopw [5, 17] (fun kv iv wr => ∃ (i k : Nat) (d' : DskS), i ≤ N ∧ kv = .int .i64 (k : Int) ∧ iv = .int .i64 (i : Int) ∧ Hid (k + sumM (ls.drop i) = 1 + sumM ls) ∧ Hid (wrAll j sec 1 ls d = wrAll j sec k (ls.drop i) d') ∧ Hid (d'.wait.length + sumM (ls.drop i) ≤ 900000 + sumM ls) ∧ Hid (JD w0 wr bj bd bp gh j d') ∧ Hid (K w0 [] w wr)) (fun _ iv _ => N - (intOf iv).toNat)
  case atStart => exact ⟨0, 1, d, by omega, rfl, rfl, rfl, rfl, Nat.add_le_add_right hw _, HJ.out, K.q (Q.refl _)⟩
  case round =>
    obtain ⟨i, k, d', hi, rfl, rfl, HKS, HE, HW, HD, HK⟩ := hrel
    by_cases hlt : i < N
    · have g1 : decide (i < N) = true := decide_eq_true hlt
      obtain ⟨A2, cap2, e2, hst, hty⟩ := HS.out.k HK.out
      have hst2 : StrsAt wr A N ls := by rw [← HN.out]; injection e2 with e2 _ _; rw [e2]; exact hst
      obtain ⟨ad, rfl, hc⟩ := hst2.at hlt
      obtain ⟨s, hs⟩ : ∃ s, gL ls i = s := ⟨_, rfl⟩
      have hdr : ls.drop i = s :: ls.drop (i + 1) := by
        have := HN.out
        rw [List.drop_eq_getElem_cons (by omega), ← hs]; congr 1
        simp [gL, List.getD, show i < ls.length by omega]
      have hsm : s ∈ ls := List.mem_of_mem_drop (i := i) (by rw [hdr]; exact List.mem_cons_self)
      obtain ⟨l1, l2⟩ := HL.out s hsm
      rw [hdr] at HKS HE HW
      rw [sumM_cons] at HKS HW
      rw [hs] at hc
      obtain ⟨m, hm⟩ : ∃ m, s.length / 64 = m := ⟨_, rfl⟩
      have HE2 : Hid (wrAll j sec 1 ls d = bindE (wrJ j sec m k s d') (wrAll j sec (k + m) (ls.drop (i + 1)))) := Lib.hid (by rw [HE.out, ← hm]; rfl)
      rw [hm] at l1 l2 HKS HW
      have hkb : k + m ≤ j.half := by have := HKS.out; have := HM.out; omega
      have hwb : d'.wait.length + m ≤ 1000000 := by have := HW.out; have := HM.out; omega
      have hdv : (s.length : Int) / 64 = (m : Int) := by omega
      have hsl : s.length ≤ 640000 := by omega
      have hki : (k : Int) + (m : Int) ≤ 8192 := by omega
      have HL1 := Lib.hid l1
      have h0r := Nat.le_trans h0 HK.out.size
      have c3 := HD.out.j.c3
      clear hst hty hst2 e2 hs hdr hsm HE hm l1
      go_wp2_with fail
      rw [HSEC.out]
      refine (wr_any sec k m s HD.out HL1.out (by omega) (by omega) hwb h0r).mono ?_
      rintro e w2 ⟨⟨v, rfl, hv⟩, hd, hk⟩
      have hwl := wr_wait j sec m k s d'
      obtain ⟨r1, hr1⟩ : ∃ r, wrJ j sec m k s d' = r := ⟨_, rfl⟩
      rw [hr1] at hv hd hwl HE2
      have HD2 := Lib.hid hd
      have HK2 := Lib.hid (HK.out.trans hk)
      have HKS2 : Hid (k + m + sumM (ls.drop (i + 1)) = 1 + sumM ls) := Lib.hid (by have := HKS.out; omega)
      have HW2 : Hid (r1.1.wait.length + sumM (ls.drop (i + 1)) ≤ 900000 + sumM ls) := Lib.hid (by have := HW.out; omega)
      clear hd hk hr1 HD HK c3 hwl HKS HW hwb
      rcases hv with ⟨hz, rfl⟩ | ⟨hz, b, rfl, hf⟩
      case inr =>
        rw [bindE_no hz] at HE2
        have HR2 : Hid (r1 = R) := Lib.hid (by rw [← HR.out, HE2.out, bindE_no hz])
        go_wp2_with fail
        go_ret
        exact ⟨⟨_, rfl, by rw [← HR2.out]; exact .inr ⟨hz, b, rfl, hf⟩⟩, by rw [← HR2.out]; exact HD2.out, HK2.out⟩
      rw [bindE_ok hz] at HE2
      clear hz
      go_wp2_with fail
      go_roundw
      case rel => exact ⟨i + 1, k + m, r1.1, by omega, by go_num, by go_num, HKS2.out, HE2.out, HW2.out, HD2.out, HK2.out⟩
      case measure => simp [intOf]; omega
    · have g1 : decide (i < N) = false := decide_eq_false hlt
      obtain rfl : i = N := by omega
      rw [List.drop_of_length_le (by rw [HN.out]; exact Nat.le_refl _)] at HKS HE HW
      have hk1 : k = 1 + sumM ls := by have := HKS.out; simpa [sumM] using this
      subst hk1
      have HE2 : Hid (wrAll j sec 1 ls d = (d', 0)) := Lib.hid HE.out
      have hwb : d'.wait.length ≤ 950000 := by have := HW.out; have := HM.out; omega
      rw [HE2.out, bindE_ok rfl] at HR
      have hkb : 1 + sumM ls ≤ j.half := by have := HM.out; omega
      have h0r := Nat.le_trans h0 HK.out.size
      have c3 := HD.out.j.c3
      have he2 : (j.epoch : Int) < 4611686018427387904 := by omega
      obtain ⟨k, hk⟩ : ∃ k, 1 + sumM ls = k := ⟨_, rfl⟩
      rw [hk] at HR hkb ⊢
      clear HKS HE HE2 HW HM hk hlt
      go_wp2_with fail
      rw [HSEC.out]
      refine (clean_any sec k HD.out (by omega) (by omega) h0r).mono ?_
      rintro e w3 ⟨⟨v, rfl, hv⟩, hd, hk⟩
      have hwl3 := clean_wait j sec k d'
      obtain ⟨r2, hr2⟩ : ∃ r, cleanJ j sec k d' = r := ⟨_, rfl⟩
      rw [hr2] at hv hd hwl3 HR
      have HD3 := Lib.hid hd
      have HK3 := Lib.hid (HK.out.trans hk)
      have h03 := Nat.le_trans h0r hk.size
      clear hd hk hr2 HD HK c3
      rcases hv with ⟨hc, rfl⟩ | ⟨hc, b, rfl, hf⟩
      case inr =>
        rw [bindE_no hc] at HR
        go_wp2_with fail
        go_ret
        exact ⟨⟨_, rfl, by rw [← HR.out]; exact .inr ⟨hc, b, rfl, hf⟩⟩, by rw [← HR.out]; exact HD3.out, HK3.out⟩
      rw [bindE_ok hc] at HR
      have c4 := HD3.out.j.c4
      clear hc
      have hPk : Hid (Calls Tryz.prog 33 #[.int .i64 ((j.epoch : Int) + 1), .int .i64 0, .string ⟨#[106, 111, 117, 114, 110, 97, 108]⟩] w3 _) := Lib.hid (Pack_ok ((j.epoch : Int) + 1) 0 magicL w3 (by decide) (decide_eq_true ⟨by omega, by omega, by omega, by omega⟩))
      go_wp2_with fail
      refine hPk.out.mono ?_
      rintro e w4 ⟨rfl, hq4⟩
      clear hPk
      have hh : packL ((j.epoch : Int) + 1) 0 magicL = headL (j.epoch + 1) := rfl
      rw [hh]
      have HHL := Lib.hid (headL_len (j.epoch + 1))
      obtain ⟨hd0, hhd⟩ : ∃ x, headL (j.epoch + 1) = x := ⟨_, rfl⟩
      rw [hhd] at HHL HR ⊢
      have HD4 := Lib.hid (HD3.out.q hq4)
      have HK4 := Lib.hid (HK3.out.trans (K.q hq4))
      have h04 := Nat.le_trans h03 hq4.size
      clear hh hhd hq4 HD3 HK3 c4
      go_upto_region 16 with (fail)
      have c3 := HD4.out.j.c3
      have k3 : ∀ m : QW w4, m.val.cell? ⟨bj, 3, none⟩ = some (.bool j.second) := fun m => m.cell c3
      have HUN := Lib.hid (fun w => unmarked_any hd0 w (by have := HHL.out; omega) (by have := HHL.out; omega))
      clear c3
      refine wp_region_q_tail 8 (by kernel_rfl) (by kernel_rfl) ?_
      simp only [List.take_succ_cons, List.take_zero, List.drop_succ_cons, List.drop_zero]
      (repeat (go_big_quiet_step ((go_at_call 66; exact calls_qs (HUN.out _)))))
      refine wpQuiet_nil ?_
      rintro wa ⟨ma, hma⟩
      have hqa : Q w4 wa := by rw [hma]; exact ma.le
      have HD5 := Lib.hid (HD4.out.q hqa)
      have HK5 := Lib.hid (HK4.out.trans (K.q hqa))
      have h05 := Nat.le_trans h04 hqa.size
      have HU := Lib.hid ((unmarkL_len (s := hd0) (by have := HHL.out; omega)).trans HHL.out)
      clear hma ma hqa k3 HUN HD4 HK4
      go_wp2_with fail
      rw [HSEC.out]
      refine (wr_any sec 0 1 (unmarkL hd0) HD5.out HU.out (by omega) (by omega) (by omega) h05).mono ?_
      rintro e w6 ⟨⟨v, rfl, hv⟩, hd, hk⟩
      have hwl6 := wr_wait j sec 1 0 (unmarkL hd0) r2.1
      obtain ⟨r3, hr3⟩ : ∃ r, wrJ j sec 1 0 (unmarkL hd0) r2.1 = r := ⟨_, rfl⟩
      rw [hr3] at hv hd hwl6 HR
      have HD6 := Lib.hid hd
      have HK6 := Lib.hid (HK5.out.trans hk)
      have h06 := Nat.le_trans h05 hk.size
      clear hd hk hr3 HD5 HK5
      rcases hv with ⟨hc, rfl⟩ | ⟨hc, b, rfl, hf⟩
      case inr =>
        rw [bindE_no hc] at HR
        go_wp2_with fail
        go_ret
        exact ⟨⟨_, rfl, by rw [← HR.out]; exact .inr ⟨hc, b, rfl, hf⟩⟩, by rw [← HR.out]; exact HD6.out, HK6.out⟩
      rw [bindE_ok hc] at HR
      have c0 := HD6.out.j.c0
      clear hc
      go_wp2_with fail
      refine (Flush_any HD6.out.d (by omega) h06).mono ?_
      rintro e w7 ⟨⟨v, rfl, hv⟩, hd, hk⟩
      have hwl7 : (flushR r3.1).1.wait.length ≤ r3.1.wait.length := flush_wait r3.1
      have hv : ErrIs w7 v (flushR r3.1).2 0 := hv
      have hd : DAt w0 w7 bd bp gh (flushR r3.1).1 := hd
      obtain ⟨r4, hr4⟩ : ∃ r, flushR r3.1 = r := ⟨_, rfl⟩
      rw [hr4] at hv hd hwl7 HR
      have HD7 := Lib.hid (HD6.out.up hk hd)
      have HK7 := Lib.hid (HK6.out.trans hk)
      have h07 := Nat.le_trans h06 hk.size
      clear hd hk hr4 HD6 HK6 c0
      rcases hv with ⟨hc, rfl⟩ | ⟨hc, b, rfl, hf⟩
      case inr =>
        rw [bindE_no hc] at HR
        go_wp2_with fail
        go_ret
        exact ⟨⟨_, rfl, by rw [← HR.out]; exact .inr ⟨hc, b, rfl, hf⟩⟩, by rw [← HR.out]; exact HD7.out, HK7.out⟩
      rw [bindE_ok hc] at HR
      have c3 := HD7.out.j.c3
      clear hc
      go_wp2_with fail
      rw [HSEC.out]
      refine (wr_any sec 0 1 hd0 HD7.out HHL.out (by omega) (by omega) (by omega) h07).mono ?_
      rintro e w8 ⟨⟨v, rfl, hv⟩, hd, hk⟩
      have hwl8 := wr_wait j sec 1 0 hd0 r4.1
      obtain ⟨r5, hr5⟩ : ∃ r, wrJ j sec 1 0 hd0 r4.1 = r := ⟨_, rfl⟩
      rw [hr5] at hv hd hwl8 HR
      have HD8 := Lib.hid hd
      have HK8 := Lib.hid (HK7.out.trans hk)
      have h08 := Nat.le_trans h07 hk.size
      clear hd hk hr5 HD7 HK7 c3
      rcases hv with ⟨hc, rfl⟩ | ⟨hc, b, rfl, hf⟩
      case inr =>
        rw [bindE_no hc] at HR
        go_wp2_with fail
        go_ret
        exact ⟨⟨_, rfl, by rw [← HR.out]; exact .inr ⟨hc, b, rfl, hf⟩⟩, by rw [← HR.out]; exact HD8.out, HK8.out⟩
      rw [bindE_ok hc] at HR
      have c0 := HD8.out.j.c0
      clear hc
      go_wp2_with fail
      refine (Flush_any HD8.out.d (by omega) h08).mono ?_
      rintro e w9 ⟨⟨v, rfl, hv⟩, hd, hk⟩
      have HD9 := Lib.hid (HD8.out.up hk hd)
      have HK9 := Lib.hid (HK8.out.trans hk)
      clear hd hk c0
      go_wp2_with fail
      go_ret
      exact ⟨⟨v, rfl, by rw [← HR.out]; exact hv⟩, by rw [← HR.out]; exact HD9.out, HK9.out⟩
end Go.Proofs.YtcbepjepcabllaaGreatDoor
/- A journal's Reset. -/
set_option linter.unusedVariables false
set_option linter.unusedSimpArgs false
namespace Go.Proofs.YtcbepjepcabllaaGreatDoor
open Go Go.RowKit
/-- Records packed, one behind the other. -/
def packsL (e : Nat) : Nat → List (List UInt8) → List (List UInt8)
  | _, [] => []
  | k, p :: r => packL (e : Int) ((k + 1 : Nat) : Int) p :: packsL e (k + 1) r
theorem packsL_snoc (e : Nat) (a : List (List UInt8)) (p : List UInt8) : ∀ k, packsL e k (a ++ [p]) = packsL e k a ++ [packL (e : Int) ((k + a.length + 1 : Nat) : Int) p] := by
  induction a with
  | nil => intro k; rfl
  | cons q r ih =>
    intro k
    rw [List.cons_append, packsL, packsL, ih, List.cons_append, List.length_cons, show k + 1 + r.length + 1 = k + (r.length + 1) + 1 by omega]
theorem packsL_len (e : Nat) (a : List (List UInt8)) : ∀ k, (packsL e k a).length = a.length := by
  induction a with
  | nil => intro k; rfl
  | cons q r ih => intro k; rw [packsL, List.length_cons, List.length_cons, ih]
theorem packL_len64 (e n : Int) (p : List UInt8) : (packL e n p).length = 64 * wantN p := by
  have h := packL_length e n p
  unfold wantN
  unfold endsN at h
  omega
def wantS (ls : List (List UInt8)) : Nat := (ls.map wantN).sum
theorem wantS_snoc (a : List (List UInt8)) (p : List UInt8) : wantS (a ++ [p]) = wantS a + wantN p := by simp [wantS]
theorem wantS_cons (p : List UInt8) (a : List (List UInt8)) : wantS (p :: a) = wantN p + wantS a := by simp [wantS]
theorem wantS_take (ls : List (List UInt8)) (i : Nat) : wantS (ls.take i) ≤ wantS ls := by
  induction ls generalizing i with
  | nil => simp [wantS]
  | cons p r ih => cases i with
    | zero => simp [wantS]
    | succ i => rw [List.take_succ_cons, wantS_cons, wantS_cons]; have := ih i; omega
theorem wantS_packs (e : Nat) (a : List (List UInt8)) : ∀ k, sumM (packsL e k a) = wantS a := by
  induction a with
  | nil => intro k; rfl
  | cons q r ih => intro k; rw [packsL, sumM_cons, ih, wantS_cons, packL_len64]; omega
theorem packsL_mem (e : Nat) (a : List (List UInt8)) (hb : ∀ p ∈ a, p.length ≤ 60000) : ∀ k, ∀ s ∈ packsL e k a, s.length = 64 * (s.length / 64) ∧ s.length / 64 ≤ 10000 := by
  induction a with
  | nil => intro k s hs; cases hs
  | cons q r ih =>
    intro k s hs
    rw [packsL] at hs
    rcases List.mem_cons.1 hs with rfl | hs
    · have := hb q List.mem_cons_self
      rw [packL_len64]; unfold wantN; omega
    · exact ih (fun p hp => hb p (List.mem_cons_of_mem _ hp)) _ s hs
def resetJ (j : JrnS) (ls : List (List UInt8)) : JrnS := { j with second := !j.second, epoch := j.epoch + 1, many := ls.length, next := 1 + wantS ls }
def resetD (j : JrnS) (ls : List (List UInt8)) (d : DskS) : DskS × Int := anewJ j (packsL (j.epoch + 1) 0 ls) d
set_option maxRecDepth 100000 in
set_option maxHeartbeats 4000000 in
theorem Reset_ok {w0 w : World} {bj bd bp gh : Nat} {j : JrnS} {d : DskS} (v : Value) (ls : List (List UInt8)) (h : JD w0 w bj bd bp gh j d) (hs : StrS w v ls) (hl : ∀ p ∈ ls, p.length ≤ 60000) (ho : j.Ok) (hcl : j.closed = false) (he : j.epoch < 4611686018427387904) (hm : wantS ls + 1 ≤ j.half) (hll : ls.length ≤ 100000) (hw : d.wait.length ≤ 900000) (h0 : w0.heap.size ≤ w.heap.size) (hz : (resetD j ls d).2 = 0) :
    Calls Tryz.prog 22 #[.pointer (some ⟨bj, 0, none⟩), v] w fun e w' => e = .returned .nilIface ∧ JD w0 w' bj bd bp gh (resetJ j ls) (resetD j ls d).1 ∧ K w0 [bj] w w' := by
  have HJ := Lib.hid h
  have HS := Lib.hid hs
  have HL := Lib.hid hl
  have ho1 := ho.place
  have hlz : (ls.length : Int) ≤ 100000 := by omega
  have HZ := Lib.hid hz
  have HO := Lib.hid ho
  obtain ⟨A, cap, rfl, hst, hty⟩ := hs
  obtain ⟨N, hN⟩ : ∃ N, ls.length = N := ⟨_, rfl⟩
  have HN := Lib.hid hN
  rw [hN] at hll hlz HS ⊢
  have c7 := h.j.c7
  have c4 := h.j.c4
  rw [hcl] at c7
  have HCL := Lib.hid hcl
  have HM := Lib.hid hm
  have g0 : decide (4611686018427387904 ≤ (j.epoch : Int)) = false := by simp; omega
  have he2 : (j.epoch : Int) < 4611686018427387904 := by omega
  have HOS0 := Lib.hid (OwnS.nil 9 w w)
  obtain ⟨D, hD⟩ : ∃ D, (resetD j ls d).1 = D := ⟨_, rfl⟩
  have HDD := Lib.hid hD
  rw [hD]
  clear h hl ho hst hty hN hm hz hcl he hD
  go_enter Tryz.func22, Tryz.ntmps22
  go_wp2_with fail
  go_loopw [5, 6, 25] (fun lv zv iv wr => ∃ (i z : Nat), i ≤ N ∧ z ≤ 8192 ∧ zv = .int .i64 (z : Int) ∧ iv = .int .i64 (i : Int) ∧ Hid (z = wantS (ls.take i)) ∧ Hid (OwnS 9 w wr lv ((packsL (j.epoch + 1) 0 (ls.take i)).map strV)) ∧ Hid (JD w0 wr bj bd bp gh j d) ∧ Hid (Q w wr)) (fun _ _ iv _ => N - (intOf iv).toNat)
  case atStart => exact ⟨0, 0, by omega, by omega, rfl, rfl, rfl, HOS0.out, HJ.out, Q.refl _⟩
  case round =>
    obtain ⟨i, z, hi, hz, rfl, rfl, HZZ, HOS, HD, HQ⟩ := hrel
    by_cases hlt : i < N
    · have g1 : decide (i < N) = true := decide_eq_true hlt
      obtain ⟨A2, cap2, e2, hst, hty⟩ := HS.out.q HQ.out
      have hst2 : StrsAt wr A N ls := by rw [← HN.out]; injection e2 with e2 _ _; rw [e2]; exact hst
      obtain ⟨ad, rfl, hc⟩ := hst2.at hlt
      obtain ⟨p, hp⟩ : ∃ s, gL ls i = s := ⟨_, rfl⟩
      have hln := HN.out
      have hpe : ls[i]'(by omega) = p := by rw [← hp]; simp [gL, List.getD, show i < ls.length by omega]
      have htk : ls.take (i + 1) = ls.take i ++ [p] := by rw [← hpe, List.take_succ_eq_append_getElem (by omega)]
      have hpm : p ∈ ls := by rw [← hpe]; exact List.getElem_mem _
      have hpl := HL.out p hpm
      have hw2 := wantS_take ls (i + 1)
      have HM2 := HM.out
      rw [hp] at hc
      have hz2 : z + wantN p = wantS (ls.take (i + 1)) := by rw [htk, wantS_snoc, HZZ.out]
      have hz3 : z + wantN p ≤ 8192 := by omega
      have hll2 : ((packsL (j.epoch + 1) 0 (ls.take i)).map strV).length ≤ 1000000 := by rw [List.length_map, packsL_len, List.length_take]; omega
      have hps : packsL (j.epoch + 1) 0 (ls.take (i + 1)) = packsL (j.epoch + 1) 0 (ls.take i) ++ [packL ((j.epoch : Int) + 1) ((i : Int) + 1) p] := by
        rw [htk, packsL_snoc, List.length_take, show min i ls.length = i by omega, Nat.zero_add]; rfl
      have HPS := Lib.hid hps
      have HZ2 := Lib.hid hz2
      have HLL := Lib.hid hll2
      have hlen := packL_len64 ((j.epoch : Int) + 1) ((i : Int) + 1) p
      have hib : (i : Int) ≤ 100000 := by omega
      have HPK := Lib.hid (Pack_ok ((j.epoch : Int) + 1) ((i : Int) + 1) p wr hpl (decide_eq_true ⟨by omega, by omega, by omega, by omega⟩))
      obtain ⟨s, hs⟩ : ∃ s, packL ((j.epoch : Int) + 1) ((i : Int) + 1) p = s := ⟨_, rfl⟩
      rw [hs] at HPK HPS hlen
      have hdv : (s.length : Int) / 64 = (wantN p : Int) := by omega
      have hz4 : (z : Int) + (wantN p : Int) ≤ 8192 := by omega
      have c4 := HD.out.j.c4
      clear hst hty hst2 e2 hln hpe htk hpm hpl hw2 HM2 hp hz2 hz3 hll2 hps hlen hs HZZ
      go_wp2_with fail
      refine HPK.out.mono ?_
      rintro e w1 ⟨rfl, hq⟩
      have HD1 := Lib.hid (HD.out.q hq)
      have HQ1 := Lib.hid (HQ.out.trans hq)
      have HO1 := Lib.hid (HOS.out.q hq)
      clear hq HD HQ HOS HPK c4
      go_upto_region 14 with (at_builtin; refine wpList_append_s rfl (.tmp 45) (.tmp 47) rfl w w1 _ _ s (by rfl) HO1.out (by rfl) (by exact HQ1.out.size) HLL.out ?_; intro v5 w5 ho5 hg5)
      have HO5 : Hid (OwnS 9 w w5 v5 ((packsL (j.epoch + 1) 0 (ls.take (i + 1))).map strV)) := Lib.hid (by rw [HPS.out, List.map_append]; exact ho5)
      have HD5 := Lib.hid (HD1.out.gbo HO1.out hg5)
      have HQ5 := Lib.hid (gb_q_own hg5 HQ1.out (fun k hk => HO1.out.block hk))
      clear ho5 hg5 HD1 HQ1 HO1
      go_wp2_with fail
      go_roundw
      case rel => exact ⟨i + 1, z + wantN p, by omega, by omega, by go_num, by go_num, HZ2.out, HO5.out, HD5.out, HQ5.out⟩
      case measure => simp [intOf]; omega
    · have g1 : decide (i < N) = false := decide_eq_false hlt
      obtain rfl : i = N := by omega
      rw [List.take_of_length_le (by rw [HN.out]; exact Nat.le_refl _)] at HZZ HOS
      have hzz : z = wantS ls := HZZ.out
      have HZF := Lib.hid hzz
      have g2 : decide (j.half - 1 < z) = false := by have := HM.out; simp; omega
      have HHF := Lib.hid (Half_any HD.out.j HO.out)
      have h0r := Nat.le_trans h0 HQ.out.size
      obtain ⟨h1, hh1⟩ : ∃ h, j.half - 1 = h := ⟨_, rfl⟩
      rw [hh1] at HHF g2
      have HANW := Lib.hid (fun v (hs : StrS wr v (packsL (j.epoch + 1) 0 ls)) => anew_any v _ HD.out hs (packsL_mem _ _ HL.out 0) HO.out (by omega) (by rw [wantS_packs]; exact HM.out) (by rw [packsL_len, HN.out]; exact hll) hw h0r)
      have HLV : Hid (StrS wr u5 (packsL (j.epoch + 1) 0 ls)) := Lib.hid HOS.out.toS
      obtain ⟨A5, c5, e5, _, _⟩ := HLV.out
      rw [packsL_len, HN.out] at e5
      subst e5
      clear hzz hh1 HZZ hlt HOS
      go_wp2_with fail
      refine HHF.out.mono ?_
      rintro e w1 ⟨rfl, rfl⟩
      go_wp2_with fail
      refine (HANW.out _ HLV.out).mono ?_
      rintro e w2 ⟨⟨v, rfl, hv⟩, hd, hk⟩
      have hv : ErrIs w2 v (resetD j ls d).2 0 := hv
      have hd : JD w0 w2 bj bd bp gh j (resetD j ls d).1 := hd
      rcases hv with ⟨_, rfl⟩ | ⟨hzz, _⟩
      case inr => exact absurd HZ.out hzz
      rw [HDD.out] at hd
      have HD2 := Lib.hid hd
      have HK2 := Lib.hid (((K.q (w0 := w0) (S := []) HQ.out).trans hk).mono (S' := [bj]) (by simp))
      clear hd hk HANW HLV HD HQ HJ
      have c3 := HD2.out.j.c3
      have f3 := HD2.out.j.fz 3
      obtain ⟨hs1, hs2⟩ := HD2.out.set 3 (.bool (!j.second)) (HD2.out.j.set3 (!j.second))
      go_upto_region 22 with (fail)
      obtain ⟨W3, hW3⟩ : ∃ W, w2.setCell ⟨bj, 3, none⟩ (.bool (!j.second)) = W := ⟨_, rfl⟩
      rw [hW3] at hs1 hs2 ⊢
      have HD3 := Lib.hid hs1
      have HK3 := Lib.hid (HK2.out.trans hs2)
      clear hs1 hs2 hW3 c3 f3 HD2 HK2
      have c4 := HD3.out.j.c4
      have f4 := HD3.out.j.fz 4
      simp only at c4
      obtain ⟨hs1, hs2⟩ := HD3.out.set 4 (.int .i64 ((j.epoch + 1 : Nat) : Int)) (HD3.out.j.set4 (j.epoch + 1))
      rw [show ((j.epoch + 1 : Nat) : Int) = (j.epoch : Int) + 1 by omega] at hs1 hs2
      go_upto_region 23 with (fail)
      obtain ⟨W4, hW4⟩ : ∃ W, W3.setCell ⟨bj, 4, none⟩ (.int .i64 ((j.epoch : Int) + 1)) = W := ⟨_, rfl⟩
      rw [hW4] at hs1 hs2 ⊢
      have HD4 := Lib.hid hs1
      have HK4 := Lib.hid (HK3.out.trans hs2)
      clear hs1 hs2 hW4 c4 f4 HD3 HK3
      obtain ⟨hs1, hs2⟩ := HD4.out.set 5 (.int .i64 (i : Int)) (HD4.out.j.set5 i)
      obtain ⟨hs3, hs4⟩ := hs1.set 6 (.int .i64 ((1 + z : Nat) : Int)) (hs1.j.set6 (1 + z))
      rw [show ((1 + z : Nat) : Int) = 1 + (z : Int) by omega] at hs3 hs4
      have k5 := HD4.out.j.c5
      have k6 := HD4.out.j.c6
      simp only at k5 k6
      have f5 := HD4.out.j.fz 5
      have f6 := hs1.j.fz 6
      have HD5 := Lib.hid hs3
      have HK5 := Lib.hid (HK4.out.trans (hs2.trans hs4))
      clear hs1 hs2 hs3 hs4
      go_wp2_with fail
      go_ret
      have he : resetJ j ls = { j with second := !j.second, epoch := j.epoch + 1, many := i, next := 1 + z } := by unfold resetJ; rw [HN.out, ← HZF.out]
      exact ⟨rfl, by rw [he]; exact HD5.out, HK5.out⟩
end Go.Proofs.YtcbepjepcabllaaGreatDoor
/- Plain laws: what a live disk shows behind writes. -/
set_option linter.unusedVariables false
set_option linter.unusedSimpArgs false
namespace Go.Proofs.YtcbepjepcabllaaGreatDoor
open Go Go.RowKit
/-- Power is there, and no fuse. -/
structure Live (d : DskS) : Prop where
  gone : d.gone = false
  dead : d.dead = false
  fuse : d.fuse < 0
  ok : d.Ok
theorem Live.ready {d : DskS} (h : Live d) {k : Nat} (hk : k < d.n) : readyC d (k : Int) = 0 := by
  unfold readyC
  rw [h.gone, h.dead, if_neg (by decide), if_neg (by decide), if_neg (by omega)]
theorem Live.act {d : DskS} (h : Live d) : actD d = d := by
  have := h.fuse
  unfold actD
  rw [if_neg (by omega), if_neg (by omega)]
theorem Live.fuse0 {d : DskS} (h : Live d) : ¬ d.fuse = 0 := by have := h.fuse; omega
theorem writeD_live {d : DskS} (h : Live d) {k : Nat} (hk : k < d.n) {s : List UInt8} (hs : s.length = 64) : writeD d (k : Int) s = { d with wait := d.wait ++ [(k, s)] } := by
  unfold writeD
  rw [h.ready hk, if_neg (by omega), if_neg h.fuse0, h.act]
  rfl
theorem writeC_live {d : DskS} (h : Live d) {k : Nat} (hk : k < d.n) {s : List UInt8} (hs : s.length = 64) : writeC d (k : Int) s = 0 := by
  unfold writeC
  rw [h.ready hk, if_neg (by omega), if_neg (by omega), if_neg h.fuse0]
theorem live_write {d : DskS} (h : Live d) {k : Nat} (hk : k < d.n) {s : List UInt8} (hs : s.length = 64) :
    Live (writeD d (k : Int) s) ∧ (writeD d (k : Int) s).n = d.n ∧ ∀ i, readL (writeD d (k : Int) s) i = if i = k then s else readL d i := by
  rw [writeD_live h hk hs]
  refine ⟨⟨h.gone, h.dead, h.fuse, ⟨h.ok.len, h.ok.most, h.ok.fuse, fun p hp => ?_⟩⟩, rfl, fun i => ?_⟩
  · rcases List.mem_append.1 hp with hp | hp
    · exact h.ok.wait p hp
    · rw [List.mem_singleton.1 hp]; exact ⟨hk, hs⟩
  · unfold readL
    simp only [List.reverse_append, List.reverse_cons, List.reverse_nil, List.nil_append, List.singleton_append, List.find?_cons]
    by_cases e : i = k
    · rw [if_pos e, show (k == i) = true by simp [e]]
    · rw [if_neg e, show (k == i) = false by simp; omega]
theorem sub_put {im : List UInt8} {k i n : Nat} {s : List UInt8} (hs : s.length = 64) (hk : k < n) (hi : i < n) (hl : im.length = 64 * n) :
    sub (putS im k s) (i * 64) (i * 64 + 64) = if i = k then s else sub im (i * 64) (i * 64 + 64) := by
  unfold sub putS
  refine List.ext_getElem? fun q => ?_
  by_cases e : i = k
  · subst e
    rw [if_pos rfl]
    simp only [List.getElem?_drop, List.getElem?_take]
    by_cases hq : q < 64
    · rw [if_pos (by omega), List.append_assoc, List.getElem?_append_right (by rw [List.length_take]; omega), List.length_take, show i * 64 + q - min (i * 64) im.length = q by omega, List.getElem?_append_left (by omega)]
    · rw [if_neg (by omega), List.getElem?_eq_none (by omega)]
  · rw [if_neg e]
    simp only [List.getElem?_drop, List.getElem?_take]
    by_cases hq : q < 64
    · rw [if_pos (by omega), if_pos (by omega)]
      rcases Nat.lt_or_ge i k with h | h
      · rw [List.append_assoc, List.getElem?_append_left (by rw [List.length_take]; omega), List.getElem?_take, if_pos (by omega)]
      · rw [List.getElem?_append_right (by rw [List.length_append, List.length_take]; omega), List.length_append, List.length_take, List.getElem?_drop, hs]
        congr 1; omega
    · rw [if_neg (by omega), if_neg (by omega)]
theorem sub_cur (n : Nat) {i : Nat} (hi : i < n) (l : List (Nat × List UInt8)) : ∀ (im : List UInt8), im.length = 64 * n → (∀ p ∈ l, p.1 < n ∧ p.2.length = 64) →
    sub (curL im l) (i * 64) (i * 64 + 64) = match l.reverse.find? (fun p => p.1 == i) with | some p => p.2 | none => sub im (i * 64) (i * 64 + 64) := by
  induction l with
  | nil => intro im _ _; rfl
  | cons p r ih =>
    intro im hl hp
    obtain ⟨p1, p2⟩ := hp p List.mem_cons_self
    have hl2 : (putS im p.1 p.2).length = 64 * n := by rw [putS_len (by omega)]; exact hl
    have h := ih (putS im p.1 p.2) hl2 (fun q hq => hp q (List.mem_cons_of_mem _ hq))
    have e : curL im (p :: r) = curL (putS im p.1 p.2) r := rfl
    rw [e, h, List.reverse_cons, List.find?_append]
    cases hf : r.reverse.find? (fun p => p.1 == i) with
    | some q => rfl
    | none =>
      rw [Option.none_or]
      simp only [List.find?_cons, List.find?_nil]
      rw [sub_put p2 p1 hi hl]
      by_cases e : i = p.1
      · rw [if_pos e, show (p.1 == i) = true by simp [e]]
      · rw [if_neg e, show (p.1 == i) = false by simp; omega]
theorem live_flush {d : DskS} (h : Live d) (h1 : 0 < d.n) : (flushR d).2 = 0 ∧ Live (flushR d).1 ∧ (flushR d).1.n = d.n ∧ (flushR d).1.wait = [] ∧ ∀ i, i < d.n → readL (flushR d).1 i = readL d i := by
  have hr : readyC d 0 = 0 := h.ready h1
  have hl := curL_len d.wait d.has h.ok.len h.ok.wait
  have hn : DskS.n { d with has := d.cur, wait := [] } = d.n := by unfold DskS.n DskS.cur; simp only; rw [hl]
  have e : flushR d = ({ d with has := d.cur, wait := [] }, 0) := by
    have c : flushC d = 0 := by unfold flushC; rw [hr]; simp [h.fuse0]
    have f : flushD d = { d with has := d.cur, wait := [] } := by unfold flushD; rw [hr]; simp [h.fuse0, h.act]
    unfold flushR
    rw [c, f]
  rw [e]
  refine ⟨rfl, ⟨h.gone, h.dead, h.fuse, ⟨?_, ?_, h.ok.fuse, fun p hp => by cases hp⟩⟩, hn, rfl, fun i hi => ?_⟩
  · rw [hn]; exact hl.trans h.ok.len
  · rw [hn]; exact h.ok.most
  · exact sub_cur d.n hi d.wait d.has h.ok.len h.ok.wait
theorem put_at {A B C s : List UInt8} {k : Nat} (ha : A.length = 64 * k) (hb : B.length = s.length) : putS (A ++ B ++ C) k s = A ++ s ++ C := by
  have e1 : List.take (k * 64) (A ++ B ++ C) = A := by rw [show k * 64 = A.length by omega, List.append_assoc, List.take_left]
  have e2 : List.drop (k * 64 + s.length) (A ++ B ++ C) = C := by rw [show k * 64 + s.length = (A ++ B).length by rw [List.length_append]; omega, List.drop_left]
  unfold putS
  rw [e1, e2]
theorem put_half (F : Nat → List UInt8) (hf : ∀ i, (F i).length = 64 ∨ True) (s : List UInt8) (k : Nat) (hs : s.length = 64) : ∀ n, (∀ i, i < n → (F i).length = 64) → k < n →
    (List.range n).flatMap (fun i => if i = k then s else F i) = putS ((List.range n).flatMap F) k s := by
  have hlen : ∀ n, (∀ i, i < n → (F i).length = 64) → ((List.range n).flatMap F).length = 64 * n := by
    intro n
    induction n with
    | zero => intro _; rfl
    | succ n ih => intro h; rw [List.range_succ, List.flatMap_append, List.length_append, ih (fun i hi => h i (by omega))]; simp [h n (by omega)]; omega
  intro n
  induction n with
  | zero => intro _ h; omega
  | succ n ih =>
    intro h hk
    have hL := hlen n (fun i hi => h i (by omega))
    rw [List.range_succ, List.flatMap_append, List.flatMap_append]
    have e1 : ∀ G : Nat → List UInt8, List.flatMap G [n] = G n := fun G => by simp
    rw [e1, e1]
    rcases Nat.lt_or_ge k n with hkn | hkn
    · rw [ih (fun i hi => h i (by omega)) hkn, if_neg (by omega)]
      unfold putS
      rw [List.take_append_of_le_length (by omega), List.drop_append_of_le_length (by omega), List.append_assoc]
    · obtain rfl : k = n := by omega
      rw [if_pos rfl]
      have e2 : (List.range k).flatMap (fun i => if i = k then s else F i) = (List.range k).flatMap F := by
        have : ∀ i ∈ List.range k, (if i = k then s else F i) = F i := fun i hi => if_neg (by rw [List.mem_range] at hi; omega)
        simp only [List.flatMap_def]
        rw [List.map_congr_left this]
      rw [e2]
      have := put_at (A := (List.range k).flatMap F) (B := F k) (C := []) (s := s) (k := k) hL (by rw [h k (by omega), hs])
      simpa using this.symm
theorem half_congr {j : JrnS} {sec : Bool} {d d' : DskS} (n : Nat) (h : ∀ i, i < n → readL d' (atJ j sec i) = readL d (atJ j sec i)) : halfL j sec d' n = halfL j sec d n := by
  unfold halfL
  simp only [List.flatMap_def]
  rw [List.map_congr_left (fun i hi => h i (List.mem_range.1 hi))]
/-- Behind a write of one sector. -/
theorem half_write {j : JrnS} {sec : Bool} {d : DskS} (h : Live d) (hp : j.first + 2 * j.half ≤ d.n) {k : Nat} (hk : k < j.half) {s : List UInt8} (hs : s.length = 64) {A B C : List UInt8} (hh : halfL j sec d j.half = A ++ B ++ C) (ha : A.length = 64 * k) (hb : B.length = 64) :
    halfL j sec (writeD d (atJ j sec k : Int) s) j.half = A ++ s ++ C := by
  have hat : ∀ i, i < j.half → atJ j sec i < d.n := by intro i hi; unfold atJ; split <;> omega
  have h1 := (live_write h (hat k hk) hs).2.2
  rw [← put_at ha (hb.trans hs.symm), ← hh]
  unfold halfL
  rw [← put_half (fun i => readL d (atJ j sec i)) (fun _ => .inr trivial) s k hs j.half (fun i hi => readL_len h.ok (hat i hi)) hk]
  simp only [List.flatMap_def]
  congr 1
  refine List.map_congr_left fun i hi => ?_
  rw [h1]
  have e : (atJ j sec i = atJ j sec k) ↔ i = k := by unfold atJ; omega
  simp only [e]
end Go.Proofs.YtcbepjepcabllaaGreatDoor
/- Plain laws: what the journal's steps leave on a live disk. -/
set_option linter.unusedVariables false
set_option linter.unusedSimpArgs false
namespace Go.Proofs.YtcbepjepcabllaaGreatDoor
open Go Go.RowKit
/-- A step on one half went well: the half holds this, all else is as it was. -/
structure Eff (j : JrnS) (sec : Bool) (d : DskS) (r : DskS × Int) (H : List UInt8) : Prop where
  ok : r.2 = 0
  live : Live r.1
  n : r.1.n = d.n
  out : ∀ i, ¬ (atJ j sec 0 ≤ i ∧ i < atJ j sec 0 + j.half) → i < d.n → readL r.1 i = readL d i
  half : halfL j sec r.1 j.half = H
theorem Eff.bind {j : JrnS} {sec : Bool} {d : DskS} {r : DskS × Int} {H H2 : List UInt8} {f : DskS → DskS × Int} (h : Eff j sec d r H) (h2 : Eff j sec r.1 (f r.1) H2) : Eff j sec d (bindE r f) H2 := by
  rw [bindE_ok h.ok]
  exact ⟨h2.ok, h2.live, h2.n.trans h.n, fun i hi hn => (h2.out i hi (by rw [h.n]; exact hn)).trans (h.out i hi hn), h2.half⟩
theorem Eff.refl {j : JrnS} {sec : Bool} {d : DskS} (h : Live d) : Eff j sec d (d, 0) (halfL j sec d j.half) := ⟨rfl, h, rfl, fun _ _ _ => rfl, rfl⟩
theorem one_eff {j : JrnS} {sec : Bool} {d : DskS} (h : Live d) (hp : j.first + 2 * j.half ≤ d.n) {k : Nat} (hk : k < j.half) {s : List UInt8} (hs : s.length = 64) {A B C : List UInt8} (hh : halfL j sec d j.half = A ++ B ++ C) (ha : A.length = 64 * k) (hb : B.length = 64) :
    Eff j sec d (writeD d (atJ j sec k : Int) s, writeC d (atJ j sec k : Int) s) (A ++ s ++ C) := by
  have hat : atJ j sec k < d.n := by unfold atJ; split <;> omega
  obtain ⟨h1, h2, h3⟩ := live_write h hat hs
  refine ⟨writeC_live h hat hs, h1, h2, fun i hi _ => ?_, half_write h hp hk hs hh ha hb⟩
  rw [h3, if_neg]
  intro e
  subst e
  apply hi
  unfold atJ
  omega
theorem wr_eff {j : JrnS} {sec : Bool} (m : Nat) : ∀ {d : DskS} {k : Nat} {s A B C : List UInt8}, Live d → j.first + 2 * j.half ≤ d.n → k + m ≤ j.half → s.length = 64 * m → halfL j sec d j.half = A ++ B ++ C → A.length = 64 * k → B.length = 64 * m →
    Eff j sec d (wrJ j sec m k s d) (A ++ s ++ C) := by
  induction m with
  | zero =>
    intro d k s A B C h hp hk hs hh ha hb
    have e1 : s = [] := List.length_eq_zero_iff.1 (by omega)
    have e2 : B = [] := List.length_eq_zero_iff.1 (by omega)
    subst e1 e2
    rw [← hh]
    exact Eff.refl h
  | succ m ih =>
    intro d k s A B C h hp hk hs hh ha hb
    have hs0 : (sub s 0 64).length = 64 := by rw [length_sub]; omega
    have hs1 : (sub s 64 s.length).length = 64 * m := by rw [length_sub]; omega
    have hse : s = sub s 0 64 ++ sub s 64 s.length := by unfold sub; simp
    have hbe : B = B.take 64 ++ B.drop 64 := (List.take_append_drop 64 B).symm
    have hb0 : (B.take 64).length = 64 := by rw [List.length_take]; omega
    have hb1 : (B.drop 64).length = 64 * m := by rw [List.length_drop]; omega
    have hh2 : halfL j sec d j.half = A ++ B.take 64 ++ (B.drop 64 ++ C) := by
      rw [hh, List.append_assoc A (B.take 64), ← List.append_assoc (B.take 64), ← hbe, List.append_assoc]
    have h1 := one_eff h hp (k := k) (by omega) hs0 (A := A) (B := B.take 64) (C := B.drop 64 ++ C) hh2 ha hb0
    have h2 := ih (d := writeD d (atJ j sec k : Int) (sub s 0 64)) (k := k + 1) (s := sub s 64 s.length) (A := A ++ sub s 0 64) (B := B.drop 64) (C := C) h1.live (by rw [show (writeD d (atJ j sec k : Int) (sub s 0 64)).n = d.n from h1.n]; exact hp) (by omega) hs1 (by rw [h1.half]; simp) (by rw [List.length_append, ha, hs0]; omega) hb1
    have h3 := Eff.bind (f := fun d => wrJ j sec m (k + 1) (sub s 64 s.length) d) h1 h2
    have e : A ++ sub s 0 64 ++ sub s 64 s.length ++ C = A ++ s ++ C := by rw [List.append_assoc A, ← hse]
    rw [e] at h3
    have e2 : wrJ j sec (m + 1) k s d = bindE (writeD d (atJ j sec k : Int) (sub s 0 64), writeC d (atJ j sec k : Int) (sub s 0 64)) (fun d => wrJ j sec m (k + 1) (sub s 64 s.length) d) := rfl
    rw [e2]
    exact h3
theorem blankL_len : blankL.length = 64 := by unfold blankL; rw [length_zL]
theorem clean_eff {j : JrnS} {sec : Bool} {d : DskS} (h : Live d) (hp : j.first + 2 * j.half ≤ d.n) {k : Nat} {A B C : List UInt8} (hh : halfL j sec d j.half = A ++ B ++ C) (ha : A.length = 64 * k) (hb : k < j.half → B.length = 64) :
    Eff j sec d (cleanJ j sec k d) (if k < j.half then A ++ blankL ++ C else A ++ B ++ C) := by
  unfold cleanJ
  by_cases hk : k < j.half
  · rw [if_neg (by omega), if_pos hk]
    exact one_eff h hp hk blankL_len hh ha (hb hk)
  · rw [if_pos (by omega), if_neg hk, ← hh]
    exact Eff.refl h
theorem flush_eff {j : JrnS} {sec : Bool} {d : DskS} (h : Live d) (hp : j.first + 2 * j.half ≤ d.n) (h0 : 0 < d.n) : Eff j sec d (flushR d) (halfL j sec d j.half) ∧ (flushR d).1.wait = [] := by
  obtain ⟨h1, h2, h3, h4, h5⟩ := live_flush h h0
  exact ⟨⟨h1, h2, h3, fun i _ hi => h5 i hi, half_congr _ fun i hi => h5 _ (by unfold atJ; split <;> omega)⟩, h4⟩
/-- What stands behind a record that has just been laid down. -/
def tailC (k half : Nat) (C : List UInt8) : List UInt8 := if k < half then blankL ++ C.drop 64 else C
theorem tailC_len {k half : Nat} {C : List UInt8} (h : C.length + 64 * k = 64 * half) : (tailC k half C).length = C.length := by
  unfold tailC
  split
  · rw [List.length_append, blankL_len, List.length_drop]; omega
  · rfl
theorem tailC_head {k half : Nat} {C : List UInt8} (h : C.length + 64 * k = 64 * half) : ∀ c r, tailC k half C = c :: r → c = 0 := by
  intro c r e
  unfold tailC at e
  split at e
  · have : blankL ++ C.drop 64 = 0 :: (zL 63 ++ C.drop 64) := rfl
    rw [this] at e; injection e with e _; exact e.symm
  · have : C.length = 0 := by omega
    rw [e] at this; simp at this
theorem lay_eff {j : JrnS} {sec : Bool} {d : DskS} (h : Live d) (hp : j.first + 2 * j.half ≤ d.n) {k m : Nat} (hm : 1 ≤ m) (hk : k + m ≤ j.half) {s A B C : List UInt8} (hs : s.length = 64 * m) (hh : halfL j sec d j.half = A ++ B ++ C) (ha : A.length = 64 * k) (hb : B.length = 64 * m) :
    Eff j sec d (layJ j sec k m s d) (A ++ s ++ tailC (k + m) j.half C) ∧ (layJ j sec k m s d).1.wait = [] := by
  have h0 : 0 < d.n := by omega
  have hl := halfL_len (sec := sec) h.ok hp j.half (Nat.le_refl _)
  have hcl : C.length + 64 * (k + m) = 64 * j.half := by
    rw [hh, List.length_append, List.length_append] at hl; omega
  have hul : (unmarkL s).length = 64 * m := by rw [unmarkL_len (by omega)]; exact hs
  have e1 := wr_eff m h hp hk hul hh ha hb
  have hul2 : (A ++ unmarkL s).length = 64 * (k + m) := by rw [List.length_append, ha, hul]; omega
  have hp1 : j.first + 2 * j.half ≤ (wrJ j sec m k (unmarkL s) d).1.n := by rw [e1.n]; exact hp
  have e2 := clean_eff e1.live hp1 (k := k + m) (A := A ++ unmarkL s) (B := C.take 64) (C := C.drop 64) (by rw [e1.half, List.append_assoc _ (C.take 64), List.take_append_drop]) hul2 (fun hx => by rw [List.length_take]; omega)
  have e3 : (if k + m < j.half then A ++ unmarkL s ++ blankL ++ C.drop 64 else A ++ unmarkL s ++ C.take 64 ++ C.drop 64) = A ++ unmarkL s ++ tailC (k + m) j.half C := by
    unfold tailC
    split
    · simp
    · rw [List.append_assoc _ (C.take 64), List.take_append_drop]
  rw [e3] at e2
  have e4 := e1.bind (f := fun d1 => cleanJ j sec (k + m) d1) e2
  obtain ⟨e5, _⟩ := flush_eff (j := j) (sec := sec) e2.live (by rw [e2.n]; exact hp1) (by rw [e2.n]; omega)
  have e6 := e2.bind (f := flushR) e5
  rw [e2.half] at e6
  have hlv := e6.live
  have hn6 := e6.n
  rw [bindE_ok e2.ok] at hlv hn6 e6
  have hu2 : unmarkL s = (unmarkL s).take 64 ++ (unmarkL s).drop 64 := (List.take_append_drop 64 _).symm
  have hu3 : (unmarkL s).drop 64 = sub s 64 s.length := by
    unfold unmarkL sub
    simp only [List.take_length]
    cases s with
    | nil => simp at hs; omega
    | cons c r => simp
  have hse : s = sub s 0 64 ++ sub s 64 s.length := by unfold sub; simp
  have hs0 : (sub s 0 64).length = 64 * 1 := by rw [length_sub]; omega
  have hh6 : halfL j sec (bindE (cleanJ j sec (k + m) (wrJ j sec m k (unmarkL s) d).1) flushR).1 j.half = A ++ (unmarkL s).take 64 ++ (sub s 64 s.length ++ tailC (k + m) j.half C) := by
    rw [bindE_ok e2.ok, e6.half, ← hu3, List.append_assoc A ((unmarkL s).take 64), ← List.append_assoc ((unmarkL s).take 64), ← hu2, List.append_assoc]
  rw [bindE_ok e2.ok] at hh6
  have e7 := wr_eff 1 (s := sub s 0 64) (A := A) (B := (unmarkL s).take 64) (C := sub s 64 s.length ++ tailC (k + m) j.half C) hlv (by rw [hn6, e1.n]; exact hp) (by omega) hs0 hh6 ha (by rw [List.length_take]; omega)
  have e8 : A ++ sub s 0 64 ++ (sub s 64 s.length ++ tailC (k + m) j.half C) = A ++ s ++ tailC (k + m) j.half C := by
    rw [List.append_assoc A (sub s 0 64), ← List.append_assoc (sub s 0 64), ← hse, List.append_assoc]
  rw [e8] at e7
  obtain ⟨e9, e10⟩ := flush_eff (j := j) (sec := sec) e7.live (by rw [e7.n, hn6, e1.n]; exact hp) (by rw [e7.n, hn6, e1.n]; exact h0)
  have e11 := e7.bind (f := flushR) e9
  rw [e7.half] at e11
  have e12 := e6.bind (f := fun d3 => bindE (wrJ j sec 1 k (sub s 0 64) d3) flushR) e11
  have eA := e1.bind (f := fun d1 => bindE (cleanJ j sec (k + m) d1) fun d2 => bindE (flushR d2) fun d3 => bindE (wrJ j sec 1 k (sub s 0 64) d3) flushR) (by rw [bindE_ok e2.ok]; exact ⟨e12.ok, e12.live, e12.n, e12.out, e12.half⟩)
  refine ⟨eA, ?_⟩
  unfold layJ
  rw [bindE_ok e1.ok, bindE_ok e2.ok, bindE_ok e5.ok, bindE_ok e7.ok]
  exact e10
end Go.Proofs.YtcbepjepcabllaaGreatDoor
/- Plain laws: what Reset and Format leave on a live disk. -/
set_option linter.unusedVariables false
set_option linter.unusedSimpArgs false
namespace Go.Proofs.YtcbepjepcabllaaGreatDoor
open Go Go.RowKit
theorem wrAll_eff {j : JrnS} {sec : Bool} (ls : List (List UInt8)) : ∀ {d : DskS} {k : Nat} {A B C : List UInt8}, Live d → j.first + 2 * j.half ≤ d.n → (∀ s ∈ ls, s.length = 64 * (s.length / 64)) → k + sumM ls ≤ j.half → halfL j sec d j.half = A ++ B ++ C → A.length = 64 * k → B.length = 64 * sumM ls →
    Eff j sec d (wrAll j sec k ls d) (A ++ ls.flatten ++ C) := by
  induction ls with
  | nil =>
    intro d k A B C h hp hl hk hh ha hb
    have e2 : B = [] := List.length_eq_zero_iff.1 (by rw [hb]; rfl)
    subst e2
    rw [List.flatten_nil, ← hh]
    exact Eff.refl h
  | cons s r ih =>
    intro d k A B C h hp hl hk hh ha hb
    have hs := hl s List.mem_cons_self
    rw [sumM_cons] at hk hb
    obtain ⟨m, hm⟩ : ∃ m, s.length / 64 = m := ⟨_, rfl⟩
    rw [hm] at hs hk hb
    have hbe : B = B.take (64 * m) ++ B.drop (64 * m) := (List.take_append_drop _ B).symm
    have hb0 : (B.take (64 * m)).length = 64 * m := by rw [List.length_take]; omega
    have hb1 : (B.drop (64 * m)).length = 64 * sumM r := by rw [List.length_drop]; omega
    have hh2 : halfL j sec d j.half = A ++ B.take (64 * m) ++ (B.drop (64 * m) ++ C) := by
      rw [hh, List.append_assoc A (B.take (64 * m)), ← List.append_assoc (B.take (64 * m)), ← hbe, List.append_assoc]
    have h1 := wr_eff m h hp (k := k) (by omega) hs hh2 ha hb0
    have h2 := ih (d := (wrJ j sec m k s d).1) (k := k + m) (A := A ++ s) (B := B.drop (64 * m)) (C := C) h1.live (by rw [h1.n]; exact hp) (fun t ht => hl t (List.mem_cons_of_mem _ ht)) (by omega) (by rw [h1.half]; simp) (by rw [List.length_append, ha, hs]; omega) hb1
    have h3 := h1.bind (f := fun d => wrAll j sec (k + m) r d) h2
    have e1 : A ++ (s :: r).flatten ++ C = A ++ s ++ r.flatten ++ C := by simp
    have e2 : wrAll j sec k (s :: r) d = bindE (wrJ j sec m k s d) (fun d => wrAll j sec (k + m) r d) := by rw [← hm]; rfl
    rw [e1, e2]
    exact h3
theorem Eff.re {j : JrnS} {sec : Bool} {d : DskS} {r : DskS × Int} {H H2 : List UInt8} (h : Eff j sec d r H) (e : H = H2) : Eff j sec d r H2 := e ▸ h
theorem anew_eff {j : JrnS} {d : DskS} (h : Live d) (hp : j.first + 2 * j.half ≤ d.n) (ls : List (List UInt8)) (hl : ∀ s ∈ ls, s.length = 64 * (s.length / 64)) (hk : 1 + sumM ls ≤ j.half) {A B C : List UInt8} (hh : halfL j (!j.second) d j.half = A ++ B ++ C) (ha : A.length = 64) (hb : B.length = 64 * sumM ls) :
    Eff j (!j.second) d (anewJ j ls d) (headL (j.epoch + 1) ++ ls.flatten ++ tailC (1 + sumM ls) j.half C) ∧ (anewJ j ls d).1.wait = [] := by
  have h0 : 0 < d.n := by omega
  have hll := halfL_len (sec := !j.second) h.ok hp j.half (Nat.le_refl _)
  obtain ⟨sec, hsec⟩ : ∃ sec, (!j.second) = sec := ⟨_, rfl⟩
  unfold anewJ
  rw [hsec] at hh hll ⊢
  have hcl : C.length + 64 * (1 + sumM ls) = 64 * j.half := by
    rw [hh, List.length_append, List.length_append] at hll; omega
  obtain ⟨H, hH⟩ : ∃ H, headL (j.epoch + 1) = H := ⟨_, rfl⟩
  have hHl : H.length = 64 * 1 := by rw [← hH]; exact headL_len _
  rw [hH]
  have e1 := wrAll_eff ls h hp hl hk hh (by omega : A.length = 64 * 1) hb
  have hfl : (A ++ ls.flatten).length = 64 * (1 + sumM ls) := by
    have := halfL_len (sec := sec) e1.live.ok (by rw [e1.n]; exact hp) j.half (Nat.le_refl _)
    rw [e1.half, List.length_append] at this; omega
  have e2 := clean_eff e1.live (by rw [e1.n]; exact hp) (k := 1 + sumM ls) (A := A ++ ls.flatten) (B := C.take 64) (C := C.drop 64) (by rw [e1.half, List.append_assoc _ (C.take 64), List.take_append_drop]) hfl (fun hx => by rw [List.length_take]; omega)
  have e3 : (if 1 + sumM ls < j.half then A ++ ls.flatten ++ blankL ++ C.drop 64 else A ++ ls.flatten ++ C.take 64 ++ C.drop 64) = A ++ (ls.flatten ++ tailC (1 + sumM ls) j.half C) := by
    unfold tailC
    split
    · simp
    · rw [List.append_assoc _ (C.take 64), List.take_append_drop, List.append_assoc]
  have e2 := e2.re e3
  obtain ⟨T, hT⟩ : ∃ T, ls.flatten ++ tailC (1 + sumM ls) j.half C = T := ⟨_, rfl⟩
  rw [hT] at e2
  have hn2 : (cleanJ j sec (1 + sumM ls) (wrAll j sec 1 ls d).1).1.n = d.n := e2.n.trans e1.n
  have hul : (unmarkL H).length = 64 * 1 := by rw [unmarkL_len (by omega)]; exact hHl
  have e4 := wr_eff 1 (k := 0) (s := unmarkL H) (A := []) (B := A) (C := T) e2.live (by rw [hn2]; exact hp) (by omega) hul (by rw [e2.half]; rfl) rfl (by omega)
  have hn4 := e4.n.trans hn2
  obtain ⟨e5, _⟩ := flush_eff (j := j) (sec := sec) e4.live (by rw [hn4]; exact hp) (by rw [hn4]; exact h0)
  have hn5 := e5.n.trans hn4
  have e6 := wr_eff 1 (k := 0) (s := H) (A := []) (B := unmarkL H) (C := T) e5.live (by rw [hn5]; exact hp) (by omega) hHl (by rw [e5.half, e4.half]) rfl (by omega)
  have hn6 := e6.n.trans hn5
  obtain ⟨e7, e8⟩ := flush_eff (j := j) (sec := sec) e6.live (by rw [hn6]; exact hp) (by rw [hn6]; exact h0)
  have e9 := e1.bind (f := fun d1 => bindE (cleanJ j sec (1 + sumM ls) d1) fun d2 => bindE (wrJ j sec 1 0 (unmarkL H) d2) fun d3 => bindE (flushR d3) fun d4 => bindE (wrJ j sec 1 0 H d4) flushR)
    (e2.bind (f := fun d2 => bindE (wrJ j sec 1 0 (unmarkL H) d2) fun d3 => bindE (flushR d3) fun d4 => bindE (wrJ j sec 1 0 H d4) flushR)
      (e4.bind (f := fun d3 => bindE (flushR d3) fun d4 => bindE (wrJ j sec 1 0 H d4) flushR) (e5.bind (f := fun d4 => bindE (wrJ j sec 1 0 H d4) flushR) (e6.bind (f := flushR) e7))))
  refine ⟨e9.re (by rw [e6.half, ← hT]; simp), ?_⟩
  rw [bindE_ok e1.ok, bindE_ok e2.ok, bindE_ok e4.ok, bindE_ok e5.ok, bindE_ok e6.ok]
  exact e8
/-- Behind Format: the halves. -/
theorem format_eff {f half : Nat} {d : DskS} (h : Live d) (hh : 2 ≤ half) (hp : f + 2 * half ≤ d.n) :
    (formatR f half d).2 = 0 ∧ Live (formatR f half d).1 ∧ (formatR f half d).1.n = d.n ∧ (formatR f half d).1.wait = [] ∧ (∀ i, ¬ (f ≤ i ∧ i < f + 2 * half) → i < d.n → readL (formatR f half d).1 i = readL d i) ∧
    (∃ C, halfL (jrn0 f half) false (formatR f half d).1 half = headL 1 ++ tailC 1 half C ∧ C.length + 64 = 64 * half) ∧ ∃ C, halfL (jrn0 f half) true (formatR f half d).1 half = blankL ++ C := by
  have hl0 := halfL_len (j := jrn0 f half) (sec := false) h.ok hp half (Nat.le_refl _)
  have hl1 := halfL_len (j := jrn0 f half) (sec := true) h.ok hp half (Nat.le_refl _)
  have e1 := clean_eff (j := jrn0 f half) (sec := true) h hp (k := 0) (A := []) (B := (halfL (jrn0 f half) true d half).take 64) (C := (halfL (jrn0 f half) true d half).drop 64) (by rw [List.nil_append, List.take_append_drop]; rfl) rfl (fun _ => by rw [List.length_take]; omega)
  have e1 := e1.re (show _ = blankL ++ (halfL (jrn0 f half) true d half).drop 64 from if_pos (show 0 < half by omega))
  have hp1 : f + 2 * half ≤ (cleanJ (jrn0 f half) true 0 d).1.n := by rw [e1.n]; exact hp
  have hq : ∀ i, i < half → readL (cleanJ (jrn0 f half) true 0 d).1 (atJ (jrn0 f half) false i) = readL d (atJ (jrn0 f half) false i) := fun i hi => e1.out _ (by simp [atJ, jrn0]; omega) (by simp [atJ, jrn0]; omega)
  have hc := half_congr (j := jrn0 f half) (sec := false) half hq
  obtain ⟨H, hH⟩ : ∃ H, halfL (jrn0 f half) false d half = H := ⟨_, rfl⟩
  rw [hH] at hc hl0
  obtain ⟨e2, e3⟩ := lay_eff (j := { jrn0 f half with epoch := 1 }) (sec := false) e1.live hp1 (k := 0) (m := 1) (Nat.le_refl _) (by show 0 + 1 ≤ half; omega) (s := headL 1) (A := []) (B := H.take 64) (C := H.drop 64) (headL_len 1) (by rw [List.nil_append, List.take_append_drop]; exact hc) rfl (by rw [List.length_take]; omega)
  have e4 : formatR f half d = layJ { jrn0 f half with epoch := 1 } false 0 1 (headL 1) (cleanJ (jrn0 f half) true 0 d).1 := bindE_ok e1.ok
  rw [e4]
  have e5 : halfL (jrn0 f half) true (layJ { jrn0 f half with epoch := 1 } false 0 1 (headL 1) (cleanJ (jrn0 f half) true 0 d).1).1 half = halfL (jrn0 f half) true (cleanJ (jrn0 f half) true 0 d).1 half :=
    half_congr half fun i hi => e2.out _ (by simp [atJ, jrn0] <;> omega) (by rw [e1.n]; simp [atJ, jrn0]; omega)
  refine ⟨e2.ok, e2.live, e2.n.trans e1.n, e3, fun i hi hn => ?_, ⟨H.drop 64, ?_, by rw [List.length_drop]; omega⟩, _, e5.trans e1.half⟩
  · rw [e2.out i (by simp [atJ, jrn0]; omega) (by rw [e1.n]; exact hn), e1.out i (by simp [atJ, jrn0]; omega) hn]
  · have := e2.half
    rw [List.nil_append] at this
    exact this
end Go.Proofs.YtcbepjepcabllaaGreatDoor
