/- Texts of this proof, laid into one: LbJ, LaX, LbK. -/
import Derived.Test.YtlhhiiemojhjdaaDoorMs17
set_option linter.unusedVariables false
set_option linter.unusedSimpArgs false
namespace Go.Proofs.YtlhhiiemojhjdaaDoor
open Go Go.RowKit
def RFindP (j : JsonD) (x : Txt) (w : World) (e : Ending) (w' : World) : Prop := ∃ un uk, e = .returned (.tuple #[.agg (cellJ (findJ j x).1 un uk).toArray, .bool (findJ j x).2]) ∧ JV w' (findJ j x).1 un uk ∧ Q w w'
theorem jv_nil (w : World) : JV w zeroJ (.slice none 0 0) (.slice none 0 0) := by
  rw [zeroJ, JV]
  exact ⟨⟨none, 0, rfl, by simp, by omega, fun h => absurd h (by simp)⟩, none, 0, rfl, by simp, by omega, fun h => absurd h (by simp)⟩
theorem rfind_none {j : JsonD} {x : Txt} {w W : World} {B : Nat} (hB : w.heap.size = B) (hq : Q w W) (h : findJ j x = (zeroJ, false)) : RFindP j x w (.returned (.tuple #[.agg (cellJ zeroJ (.slice none 0 0) (.slice none 0 0)).toArray, .bool false])) (W.setRow (B + 1) zeroC.toArray) := by
  refine ⟨.slice none 0 0, .slice none 0 0, by rw [h], by rw [h]; exact jv_nil _, hq.setRow (g := B + 1) (by omega) zeroC.toArray⟩
theorem ixN_step (x : Txt) (ns : List Txt) (q : Nat) (h : q < ns.length) : ixN x (ns.drop q) q = if x = gL ns q then (q : Int) else ixN x (ns.drop (q + 1)) (q + 1) := by
  have e : ns.drop q = gL ns q :: ns.drop (q + 1) := by simp [gL, List.getD, h]
  rw [e, ixN]
set_option maxRecDepth 100000 in
set_option maxHeartbeats 4000000 in
theorem rFind_any (j : JsonD) (x : Txt) (w : World) (vn vk : Value) (hj : JV w j vn vk) (hb : bigJ 9223372036854775807 j) :
    Calls Tryd.prog 31 #[.agg (cellJ j vn vk).toArray, .string ⟨x.toArray⟩] w (RFindP j x w) := by
  obtain ⟨k, t, ns, ks⟩ := j
  have HC1 := Lib.hid (fun W (hq : Q w W) => rRight_any (.mk k t ns ks) W vn vk (hj.q hq) hb)
  obtain ⟨A2, c2n, cells, e2, hjk, hcl, hnone, hcc⟩ := hj.cells
  have hnv : NsV w vn ns := by rw [JV] at hj; exact hj.1
  have HKd := Lib.hid hj.kidAt
  subst e2
  obtain ⟨A1, c1n, rfl, hnl1, hnl2, hnat⟩ := hnv.at
  have HNat := Lib.hid hnat
  have hnl : ns.length ≤ 9223372036854775807 := by omega
  clear hj hnv hjk hcl hnone hcc hb hnat
  go_enter Tryd.func31, Tryd.ntmps31
  go_upto_region 1 with (fail)
  have e1 := heap_alloc_new w (.cells (cellJ (.mk k t ns ks) (.slice A1 ns.length c1n) (.slice A2 ks.length c2n)).toArray 40)
  have q1 : Q w (w.alloc (.cells (cellJ (.mk k t ns ks) (.slice A1 ns.length c1n) (.slice A2 ks.length c2n)).toArray 40)) := (Q.refl w).alloc _
  have s1 : (w.alloc (.cells (cellJ (.mk k t ns ks) (.slice A1 ns.length c1n) (.slice A2 ks.length c2n)).toArray 40)).heap.size = w.heap.size + 1 := by simp
  obtain ⟨W1, hW1⟩ : ∃ W1, w.alloc (.cells (cellJ (.mk k t ns ks) (.slice A1 ns.length c1n) (.slice A2 ks.length c2n)).toArray 40) = W1 := ⟨_, rfl⟩
  rw [hW1] at e1 q1 s1
  rw [hW1]
  have e2 := heap_alloc_new W1 (.cells zeroC.toArray 40)
  have q2 : Q W1 (W1.alloc (.cells zeroC.toArray 40)) := (Q.refl W1).alloc _
  rw [s1] at e2
  obtain ⟨W2, hW2⟩ : ∃ W2, W1.alloc (.cells zeroC.toArray 40) = W2 := ⟨_, rfl⟩
  rw [hW2] at e2 q2
  have hW2' : W1.alloc (.cells #[.int .i64 0, .string ⟨#[]⟩, .slice none 0 0, .slice none 0 0] 40) = W2 := hW2
  rw [hW2']
  obtain ⟨B, hB⟩ : ∃ B, w.heap.size = B := ⟨_, rfl⟩
  have e1 := q2.block e1
  rw [hB] at e1 e2
  rw [hB]
  have HB := Lib.hid hB
  have HE1 := Lib.hid e1
  have HE2 := Lib.hid e2
  have HQ2 := Lib.hid (q1.trans q2)
  have HSz := Lib.hid (info_sz (.mk k t ns ks) (.slice A1 ns.length c1n) (.slice A2 ks.length c2n))
  have HZI := Lib.hid (info_sz zeroJ (.slice none 0 0) (.slice none 0 0))
  have HZO := Lib.hid (cellJ_one (j := zeroJ) (un := .slice none 0 0) (uk := .slice none 0 0) ⟨none, 0, 0, rfl⟩ ⟨none, 0, 0, rfl⟩)
  clear e1 e2 q1 q2 s1 hW1 hW2 hW2' hB
  go_wp2_with (refine wpList_load_row rfl 40 (.tmp 2) rfl B rfl 40 (cellJ (.mk k t ns ks) (.slice A1 ns.length c1n) (.slice A2 ks.length c2n)).toArray (0, 0) _ HE1.out Tryd.underlying40 rfl HSz.out ?_)
  refine (HC1.out _ HQ2.out).mono ?_
  rintro e W3 ⟨rfl, hq3⟩
  have HQ3 := Lib.hid (HQ2.out.trans hq3)
  have HE3 := Lib.hid (hq3.block HE2.out)
  have HE4 := Lib.hid (hq3.block HE1.out)
  clear hq3 HC1
  obtain ⟨p, hp⟩ : ∃ p, rtB (.mk k t ns ks) 20 8000 = p := ⟨_, rfl⟩
  have HP := Lib.hid hp
  rw [hp]
  clear hp
  go_wp2_with fail
  by_cases hg : p = true ∧ k = 7
  · obtain ⟨rfl, rfl⟩ := hg
    have hw := rt_wf HP.out
    have HNk := Lib.hid (wf_obj hw.1)
    have hnl8 : ns.length ≤ 8000 := by
      have h1 := cnt_len ks
      have h2 := hw.2
      rw [cntJ] at h2
      have h3 := HNk.out
      omega
    clear hw
    go_loopg [7] (ns.length + 1) (fun gk i wx => ∃ q : Nat, gk = ns.length - q + 1 ∧ q ≤ ns.length ∧ i = .int .i64 (q : Int) ∧ Hid (ixN x (ns.drop q) q = ixN x ns 0) ∧ Hid (Q W3 wx))
    case atStart => exact ⟨0, rfl, by omega, rfl, Lib.hid rfl, Lib.hid (Q.refl W3)⟩
    case round =>
      obtain ⟨q, rfl, hq, rfl, HI, HQI⟩ := hrel
      rename World => wa
      have HQw := Lib.hid (HQ3.out.trans HQI.out)
      have HEw := Lib.hid (HQI.out.block HE3.out)
      have h4w := HQI.out.block HE4.out
      have x0 : wa.cell? ⟨B, 0, none⟩ = some (.int .i64 7) := by rw [cell_of_row _ _ _ _ _ _ h4w]; rfl
      have x2 : wa.cell? ⟨B, 2, none⟩ = some (.slice A1 ns.length c1n) := by rw [cell_of_row _ _ _ _ _ _ h4w]; rfl
      have x3 : wa.cell? ⟨B, 3, none⟩ = some (.slice A2 ks.length c2n) := by rw [cell_of_row _ _ _ _ _ _ h4w]; rfl
      clear h4w
      by_cases hlt : q < ns.length
      · have hdq : decide (q < ns.length) = true := by simpa using hlt
        obtain ⟨gn, on, hAn, hcn⟩ := HNat.out q hlt
        subst hAn
        have y0 := HQw.out.cell hcn
        obtain ⟨nm, hnm⟩ : ∃ nm, gL ns q = nm := ⟨_, rfl⟩
        have HSt := Lib.hid (ixN_step x ns q hlt)
        rw [hnm] at y0 HSt
        clear hcn hnm
        by_cases hnx : nm = x
        · have g1 : (nm == x) = true := by simpa using hnx
          have hix : ixN x ns 0 = (q : Int) := by rw [← HI.out, HSt.out, if_pos hnx.symm]
          have HF := Lib.hid (find_kid (x := x) rfl HP.out hix)
          obtain ⟨A', c', e', hc1, hc2, hkd⟩ := HKd.out
          injection e' with e1 _ e2
          subst e1 e2
          obtain ⟨g, off, un, uk, hA⟩ := hkd q (by have := HNk.out; omega)
          obtain rfl := hA.a
          have HRg : Hid (wa.rangeAt g (off + q * 4) (cellJ (gK ks q) un uk)) := Lib.hid (fun j u hu => HQw.out.cell (hA.rg j u hu))
          have HIn : Hid ((Tryd.prog.info? 40).map (·.size) = some (cellJ (gK ks q) un uk).length) := Lib.hid (info_sz (gK ks q) un uk)
          have HIn5 := Lib.hid (info_sz (gK ks q) un uk)
          have HOne5 := Lib.hid (cellJ_one (j := gK ks q) (jv_slices hA.jv).1 (jv_slices hA.jv).2)
          have HR0 := Lib.hid (setRow_at HEw.out (cellJ (gK ks q) un uk).toArray)
          have hdk : q < ks.length := by have := HNk.out; omega
          have HX : Hid (RFindP (.mk 7 t ns ks) x w (.returned (.tuple #[.agg (cellJ (gK ks q) un uk).toArray, .bool true])) (wa.setRow (B + 1) (cellJ (gK ks q) un uk).toArray)) := Lib.hid (by
            have hB := HB.out
            have q9 := HQw.out.setRow (g := B + 1) (by omega) (cellJ (gK ks q) un uk).toArray
            refine ⟨un, uk, by rw [HF.out], ?_, q9⟩
            rw [HF.out]
            exact hA.jv.q q9)
          clear hkd hA hix hnx HI HSt HKd HNat HF
          go_wp2_with (first | refine wpList_load_mid rfl 40 (.tmp 35) rfl g (off + q * 4) rfl (cellJ (gK ks q) un uk) _ HRg.out Tryd.underlying40 rfl HIn.out ?_; simp only [Act.put, List.setIfInBounds_toArray, List.set_cons_succ, List.set_cons_zero] | refine wpList_store_row rfl 40 (.tmp 4) (.tmp 36) rfl (B + 1) (cellJ (gK ks q) un uk).toArray rfl rfl 40 _ HEw.out HIn5.out rfl HOne5.out ?_)
          exact bodyPost_ret (results_json (p := 4) (q := 5) rfl (by rfl) HR0.out) rfl HX.out
        · have g1 : (nm == x) = false := by simpa using hnx
          have HN : Hid (ixN x (ns.drop (q + 1)) (q + 1) = ixN x ns 0) := Lib.hid (by rw [← HI.out, HSt.out, if_neg (fun h => hnx h.symm)])
          clear hnx HI HSt
          go_wp2_with fail
          go_roundg (ns.length - (q + 1) + 1)
          case measure => omega
          case rel => exact ⟨q + 1, rfl, by omega, by simp, HN, HQI⟩
      · have hdq : decide (q < ns.length) = false := by simpa using hlt
        have HF : Hid (findJ (.mk 7 t ns ks) x = (zeroJ, false)) := Lib.hid (find_no (fun h => by
          have h2 : 0 ≤ ixN x ns 0 := h.2.2
          rw [← HI.out, List.drop_of_length_le (by omega), ixN] at h2
          omega))
        have HX := Lib.hid (rfind_none HB.out HQw.out HF.out)
        have HR0 := Lib.hid (setRow_at HEw.out zeroC.toArray)
        clear HI hlt x3
        go_wp2_with (refine wpList_store_row rfl 40 (.tmp 4) (.tmp 37) rfl (B + 1) zeroC.toArray rfl rfl 40 _ HEw.out HZI.out rfl HZO.out ?_)
        exact bodyPost_ret (results_json (j := zeroJ) (vn := .slice none 0 0) (vk := .slice none 0 0) (p := 4) (q := 5) rfl (by rfl) HR0.out) rfl HX.out
  · have HF : Hid (findJ (.mk k t ns ks) x = (zeroJ, false)) := Lib.hid (find_no (fun h => by
      have h1 : k = 7 := h.1
      have h2 := h.2.1
      rw [HP.out] at h2
      exact hg ⟨h2, h1⟩))
    have HX := Lib.hid (rfind_none HB.out HQ3.out HF.out)
    have HR0 := Lib.hid (setRow_at HE3.out zeroC.toArray)
    have HG := Lib.hid hg
    clear hg
    go_loopg [7] 1 (fun gk i wx => gk = 1 ∧ i = .int .i64 0 ∧ W3 = wx)
    case atStart => exact ⟨rfl, rfl, rfl⟩
    case round =>
      obtain ⟨rfl, rfl, rfl⟩ := hrel
      have x0 : W3.cell? ⟨B, 0, none⟩ = some (.int .i64 k) := by rw [cell_of_row _ _ _ _ _ _ HE4.out]; rfl
      have x2 : W3.cell? ⟨B, 2, none⟩ = some (.slice A1 ns.length c1n) := by rw [cell_of_row _ _ _ _ _ _ HE4.out]; rfl
      by_cases hl0 : 0 < ns.length
      case' pos => have hdq : decide (0 < ns.length) = true := by simpa using hl0
      case' neg => have hdq : decide (0 < ns.length) = false := by simpa using hl0
      case pos =>
        clear hl0
        cases p with
        | false =>
          go_wp2_with (refine wpList_store_row rfl 40 (.tmp 4) (.tmp 37) rfl (B + 1) zeroC.toArray rfl rfl 40 _ HE3.out HZI.out rfl HZO.out ?_)
          exact bodyPost_ret (results_json (j := zeroJ) (vn := .slice none 0 0) (vk := .slice none 0 0) (p := 4) (q := 5) rfl (by rfl) HR0.out) rfl HX.out
        | true =>
          have hk7 : (k == 7) = false := by
            have := HG.out
            simp at this; simpa using this
          go_wp2_with (refine wpList_store_row rfl 40 (.tmp 4) (.tmp 37) rfl (B + 1) zeroC.toArray rfl rfl 40 _ HE3.out HZI.out rfl HZO.out ?_)
          exact bodyPost_ret (results_json (j := zeroJ) (vn := .slice none 0 0) (vk := .slice none 0 0) (p := 4) (q := 5) rfl (by rfl) HR0.out) rfl HX.out
      case neg =>
        clear hl0
        go_wp2_with (refine wpList_store_row rfl 40 (.tmp 4) (.tmp 37) rfl (B + 1) zeroC.toArray rfl rfl 40 _ HE3.out HZI.out rfl HZO.out ?_)
        exact bodyPost_ret (results_json (j := zeroJ) (vn := .slice none 0 0) (vk := .slice none 0 0) (p := 4) (q := 5) rfl (by rfl) HR0.out) rfl HX.out
end Go.Proofs.YtlhhiiemojhjdaaDoor
set_option linter.unusedVariables false
set_option linter.unusedSimpArgs false
namespace Go.Proofs.YtlhhiiemojhjdaaDoor
open Go Go.RowKit
end Go.Proofs.YtlhhiiemojhjdaaDoor
set_option linter.unusedVariables false
set_option linter.unusedSimpArgs false
namespace Go.Proofs.YtlhhiiemojhjdaaDoor
open Go Go.RowKit
theorem eqJ_symm (a b : JsonD) : eqJ a b = eqJ b a := by
  rw [Bool.eq_iff_iff, eqJ_iff, eqJ_iff]
  exact eq_comm
theorem sameF_is (a b : JsonD) : sameF a b = (rtB a 20 8000 && rtB b 20 8000 && eqJ a b) := by
  unfold sameF; rw [Bool.and_assoc]
theorem sameF_back (a b : JsonD) : sameF b a = (rtB a 20 8000 && rtB b 20 8000 && eqJ a b) := by
  rw [sameF_is, eqJ_symm b a, Bool.and_comm (rtB b 20 8000)]
def FdP (F : JsonD × Bool) (w : World) (e : Ending) (w' : World) : Prop := ∃ un uk, e = .returned (.tuple #[.agg (cellJ F.1 un uk).toArray, .bool F.2]) ∧ JO w' F.1 w.heap.size w'.heap.size un uk ∧ Q w w'
def RdP (F : JsonD × Bool) (w : World) (e : Ending) (w' : World) : Prop := ∃ un uk, e = .returned (.tuple #[.agg (cellJ F.1 un uk).toArray, .bool F.2]) ∧ JV w' F.1 un uk ∧ Q w w'
def XAt (a : JsonD) (w0 : World) (xb : Nat) (W : World) : Prop := ∃ xn xk, W.heap[xb]? = some (.cells (cellJ a xn xk).toArray 40 (0, 0)) ∧ JV W a xn xk ∧ Q w0 W
set_option maxRecDepth 100000 in
set_option maxHeartbeats 8000000 in
theorem JsonWrites_any (a b : JsonD) (x : Txt) (w : World) (vn vk un uk : Value) (ha : JV w a vn vk) (hb : JV w b un uk) (hu : UT w) (ba : bigJ 1100000 a) (ca : cntJ a ≤ 2000000) (la : lenJ 2000000 a) (bb : bigJ 1100000 b) :
    Calls Tryd.prog 11 #[.agg (cellJ a vn vk).toArray, .agg (cellJ b un uk).toArray, .string ⟨x.toArray⟩] w fun e w' => e = .returned (.bool true) ∧ Q w w' := by
  obtain ⟨⟨A1, n1, c1, rfl⟩, ⟨A2, n2, c2, rfl⟩⟩ := jv_slices ha
  obtain ⟨⟨B1, m1, d1, rfl⟩, ⟨B2, m2, d2, rfl⟩⟩ := jv_slices hb
  have HA := Lib.hid ha
  have HB := Lib.hid hb
  have HU : Hid (∀ W, Q w W → UT W) := Lib.hid (fun W hq => Utf8Tabs_below hu hq)
  have bba := bigJ_mono (show 1100000 ≤ 9223372036854775807 by decide) _ ba
  have bbb := bigJ_mono (show 1100000 ≤ 9223372036854775807 by decide) _ bb
  have HMany : Hid (∀ W, Q w W → Calls Tryd.prog 28 #[.agg (cellJ a (.slice A1 n1 c1) (.slice A2 n2 c2)).toArray] W (ManyP a W)) := Lib.hid (fun W hq => many_all (cntJ a) a (Nat.le_refl _) ca W _ _ (ha.q hq))
  have HCop : Hid (∀ W, Q w W → Calls Tryd.prog 29 #[.agg (cellJ a (.slice A1 n1 c1) (.slice A2 n2 c2)).toArray] W (CpP a W)) := Lib.hid (fun W hq => copied_all (cntJ a) a (Nat.le_refl _) ca la W _ _ (ha.q hq))
  have HWr : Hid (∀ W xn xk, Q w W → JV W a xn xk → Calls Tryd.prog 20 #[.agg (cellJ a xn xk).toArray] W fun e w' => e = .returned (.tuple #[.string ⟨(writeR a).1.toArray⟩, .int .i64 (writeR a).2]) ∧ Q W w') := Lib.hid (fun W xn xk hq hj => Write_any a W xn xk hj (HU.out W hq) ba)
  have HRw : Hid (∀ W, Q w W → Calls Tryd.prog 30 #[.agg (cellJ a (.slice A1 n1 c1) (.slice A2 n2 c2)).toArray] W fun e w' => e = .returned (.tuple #[.string ⟨(writeR a).1.toArray⟩, .int .i64 (writeR a).2]) ∧ Q W w') := Lib.hid (fun W hq => rWrite_any a W _ _ (ha.q hq) ba)
  obtain ⟨IS, hIS⟩ : ∃ IS, (rtB a 20 8000 && rtB b 20 8000 && eqJ a b) = IS := ⟨_, rfl⟩
  obtain ⟨OWN, hOWN⟩ : ∃ OWN, (rtB a 20 8000 && rtB a 20 8000 && eqJ a a) = OWN := ⟨_, rfl⟩
  have HRs : Hid (∀ W, Q w W → Calls Tryd.prog 26 #[.agg (cellJ a (.slice A1 n1 c1) (.slice A2 n2 c2)).toArray, .agg (cellJ b (.slice B1 m1 d1) (.slice B2 m2 d2)).toArray] W fun e w' => e = .returned (.bool IS) ∧ Q W w') := Lib.hid (fun W hq => by rw [← hIS]; exact rSame_any a b W _ _ _ _ (ha.q hq) (hb.q hq) bba bbb)
  have HRo : Hid (∀ W xn xk, Q w W → JV W a xn xk → Calls Tryd.prog 26 #[.agg (cellJ a xn xk).toArray, .agg (cellJ a (.slice A1 n1 c1) (.slice A2 n2 c2)).toArray] W fun e w' => e = .returned (.bool OWN) ∧ Q W w') := Lib.hid (fun W xn xk hq hj => by rw [← hOWN]; exact rSame_any a a W _ _ _ _ hj (ha.q hq) bba bba)
  have HS1 : Hid (∀ W xn xk, Q w W → JV W a xn xk → Calls Tryd.prog 22 #[.agg (cellJ a xn xk).toArray, .agg (cellJ b (.slice B1 m1 d1) (.slice B2 m2 d2)).toArray] W fun e w' => e = .returned (.bool IS) ∧ Q W w') := Lib.hid (fun W xn xk hq hj => by rw [← hIS, ← sameF_is]; exact Same_any a b W _ _ _ _ hj (hb.q hq) (HU.out W hq) bba bbb)
  have HS2 : Hid (∀ W xn xk, Q w W → JV W a xn xk → Calls Tryd.prog 22 #[.agg (cellJ b (.slice B1 m1 d1) (.slice B2 m2 d2)).toArray, .agg (cellJ a xn xk).toArray] W fun e w' => e = .returned (.bool IS) ∧ Q W w') := Lib.hid (fun W xn xk hq hj => by rw [← hIS, ← sameF_back]; exact Same_any b a W _ _ _ _ (hb.q hq) hj (HU.out W hq) bbb bba)
  have HS3 : Hid (∀ W xn xk, Q w W → JV W a xn xk → Calls Tryd.prog 22 #[.agg (cellJ a xn xk).toArray, .agg (cellJ a xn xk).toArray] W fun e w' => e = .returned (.bool OWN) ∧ Q W w') := Lib.hid (fun W xn xk hq hj => by rw [← hOWN, ← sameF_is]; exact Same_any a a W _ _ _ _ hj hj (HU.out W hq) bba bba)
  obtain ⟨TX, hTX⟩ : ∃ TX, (writeR a).1 = TX := ⟨_, rfl⟩
  obtain ⟨TC, hTC⟩ : ∃ TC, (writeR a).2 = TC := ⟨_, rfl⟩
  rw [hTX, hTC] at HWr HRw
  obtain ⟨F, hF⟩ : ∃ F, findJ a x = F := ⟨_, rfl⟩
  have HFd : Hid (∀ W xn xk, Q w W → JV W a xn xk → Calls Tryd.prog 24 #[.agg (cellJ a xn xk).toArray, .string ⟨x.toArray⟩] W (FdP F W)) := Lib.hid (fun W xn xk hq hj => by rw [← hF]; exact Find_any a x W xn xk hj (HU.out W hq) bba)
  have HRf : Hid (∀ W, Q w W → Calls Tryd.prog 31 #[.agg (cellJ a (.slice A1 n1 c1) (.slice A2 n2 c2)).toArray, .string ⟨x.toArray⟩] W (RdP F W)) := Lib.hid (fun W hq => by rw [← hF]; exact rFind_any a x W _ _ (ha.q hq) bba)
  have hF1 : F.2 = true → (rtB F.1 20 8000 && rtB F.1 20 8000 && eqJ F.1 F.1) = true := fun h => by
    rw [← hF] at h ⊢
    rw [find_right h, (eqJ_iff _ _).2 rfl]; rfl
  have hF2 : F.2 = false → F.1.kind = 0 := fun h => by
    rw [← hF] at h ⊢
    unfold findJ at h ⊢
    split at h
    · cases h
    · next hh => rw [if_neg hh]; rfl
  have hF3 : bigJ 9223372036854775807 F.1 := by
    rw [← hF]
    unfold findJ
    split
    · next hh =>
      obtain ⟨k, t, ns, ks⟩ := a
      obtain ⟨h1, h2, h3⟩ := hh
      have h1 : k = 7 := h1
      subst h1
      have h3 : 0 ≤ ixN x ns 0 := h3
      have hb := ixN_bound x ns 0 h3
      have hl := wf_obj (rt_wf h2).1
      rw [bigJ] at bba
      exact bigKs_gK bba.2.2 (i := (ixN x ns 0).toNat) (by omega)
    · rw [zeroJ, bigJ, bigKs]; simp
  have HF1 := Lib.hid hF1
  have HF2 := Lib.hid hF2
  have HF3 := Lib.hid hF3
  have HEx := Lib.hid (fun W hq => examples14 W (HU.out W hq))
  have HSa := Lib.hid (info_sz a (.slice A1 n1 c1) (.slice A2 n2 c2))
  have HSb := Lib.hid (info_sz b (.slice B1 m1 d1) (.slice B2 m2 d2))
  have HOa := Lib.hid (cellJ_one (j := a) (un := .slice A1 n1 c1) (uk := .slice A2 n2 c2) ⟨_, _, _, rfl⟩ ⟨_, _, _, rfl⟩)
  clear ha hb hu ba bb ca la bba bbb hIS hOWN hTX hTC hF hF1 hF2 hF3
  go_enter Tryd.func11, Tryd.ntmps11
  go_upto_region 1 with (fail)
  obtain ⟨W1, hW1⟩ : ∃ W1, w.alloc (.cells (cellJ a (.slice A1 n1 c1) (.slice A2 n2 c2)).toArray 40) = W1 := ⟨_, rfl⟩
  have hr1 : W1.heap[w.heap.size]? = some (.cells (cellJ a (.slice A1 n1 c1) (.slice A2 n2 c2)).toArray 40 (0, 0)) := by rw [← hW1]; exact heap_alloc_new w _
  have hq1 : Q w W1 := by rw [← hW1]; exact (Q.refl w).alloc _
  have hs1 : W1.heap.size = w.heap.size + 1 := by rw [← hW1]; simp
  rw [hW1]
  obtain ⟨W2, hW2⟩ : ∃ W2, W1.alloc (.cells (cellJ b (.slice B1 m1 d1) (.slice B2 m2 d2)).toArray 40) = W2 := ⟨_, rfl⟩
  have hr2 : W2.heap[w.heap.size + 1]? = some (.cells (cellJ b (.slice B1 m1 d1) (.slice B2 m2 d2)).toArray 40 (0, 0)) := by rw [← hW2, ← hs1]; exact heap_alloc_new W1 _
  have hq2 : Q W1 W2 := by rw [← hW2]; exact (Q.refl W1).alloc _
  have hr1 := hq2.block hr1
  rw [hW2]
  obtain ⟨j1, hj1⟩ : ∃ j1, w.heap.size = j1 := ⟨_, rfl⟩
  rw [hj1] at hr1 hr2 ⊢
  obtain ⟨j2, hj2⟩ : ∃ j2, j1 + 1 = j2 := ⟨_, rfl⟩
  rw [hj2] at hr2 ⊢
  have HQ2 := Lib.hid (hq1.trans hq2)
  have HR1 := Lib.hid hr1
  have HR2 := Lib.hid hr2
  clear hW1 hW2 hs1 hr1 hr2 hq1 hq2 hj1 hj2
  go_wp2_with fail
  refine (HEx.out _ HQ2.out).mono ?_
  rintro e W3 ⟨rfl, hq3⟩
  have HQ3 := Lib.hid (HQ2.out.trans hq3)
  have H31 := Lib.hid (hq3.block HR1.out)
  have H32 := Lib.hid (hq3.block HR2.out)
  clear hq3 HEx HQ2 HR1 HR2
  go_upto_region 3 with (first | refine wpList_load_row rfl 40 (.tmp 3) rfl j1 rfl 40 (cellJ a (.slice A1 n1 c1) (.slice A2 n2 c2)).toArray (0, 0) _ H31.out Tryd.underlying40 rfl HSa.out ?_ | refine wpList_store_row rfl 40 (.tmp 8) (.tmp 23) rfl W3.heap.size (cellJ a (.slice A1 n1 c1) (.slice A2 n2 c2)).toArray rfl rfl 40 _ (heap_alloc_new W3 _) HSa.out rfl HOa.out ?_)
  obtain ⟨W4, hW4⟩ : ∃ W4, (W3.alloc (.cells #[.int .i64 0, .string ⟨#[]⟩, .slice none 0 0, .slice none 0 0] 40)).setRow W3.heap.size (cellJ a (.slice A1 n1 c1) (.slice A2 n2 c2)).toArray = W4 := ⟨_, rfl⟩
  have hk4 : W4.heap[W3.heap.size]? = some (.cells (cellJ a (.slice A1 n1 c1) (.slice A2 n2 c2)).toArray 40 (0, 0)) := by rw [← hW4]; exact setRow_at (heap_alloc_new W3 _) _
  have hq4 : Q W3 W4 := by rw [← hW4]; exact ((Q.refl W3).alloc _).setRow (Nat.le_refl _) _
  have hlt31 := lt_of_heap H31.out
  have hlt32 := lt_of_heap H32.out
  rw [hW4]
  obtain ⟨xb, hxb⟩ : ∃ xb, W3.heap.size = xb := ⟨_, rfl⟩
  rw [hxb] at hk4 hlt31 hlt32 ⊢
  have HQ4 := Lib.hid (HQ3.out.trans hq4)
  have H41 := Lib.hid (hq4.block H31.out)
  have H42 := Lib.hid (hq4.block H32.out)
  have H4x := Lib.hid hk4
  have HXb : Hid (j1 < xb ∧ j2 < xb ∧ w.heap.size ≤ xb) := Lib.hid ⟨hlt31, hlt32, by rw [← hxb]; exact HQ3.out.size⟩
  clear hW4 hk4 hq4 hxb hlt31 hlt32 H31 H32 HQ3
  have HMn := Lib.hid (HMany.out W4 HQ4.out)
  go_wp2_with (refine wpList_load_row rfl 40 (.tmp 3) rfl j1 rfl 40 (cellJ a (.slice A1 n1 c1) (.slice A2 n2 c2)).toArray (0, 0) _ H41.out Tryd.underlying40 rfl HSa.out ?_)
  refine HMn.out.mono ?_
  rintro e W5 ⟨m, rfl, -, -, hq5⟩
  have HQ5 := Lib.hid (HQ4.out.trans hq5)
  have H51 := Lib.hid (hq5.block H41.out)
  have H52 := Lib.hid (hq5.block H42.out)
  have H5x := Lib.hid (hq5.block H4x.out)
  obtain ⟨sm, hsm⟩ : ∃ sm, decide ((m : Int) < 9000) = sm := ⟨_, rfl⟩
  clear hq5 HMn H41 H42 H4x HQ4 HMany
  go_upto_if 27 with (fail)
  go_cut [] (fun wx => Hid (XAt a w xb wx ∧ wx.heap[j1]? = some (.cells (cellJ a (.slice A1 n1 c1) (.slice A2 n2 c2)).toArray 40 (0, 0)) ∧ wx.heap[j2]? = some (.cells (cellJ b (.slice B1 m1 d1) (.slice B2 m2 d2)).toArray 40 (0, 0))))
  case first =>
    cases sm with
    | true =>
      have HCp := Lib.hid (HCop.out W5 HQ5.out)
      go_wp2_with (refine wpList_load_row rfl 40 (.tmp 3) rfl j1 rfl 40 (cellJ a (.slice A1 n1 c1) (.slice A2 n2 c2)).toArray (0, 0) _ H51.out Tryd.underlying40 rfl HSa.out ?_)
      refine HCp.out.mono ?_
      rintro e W6 ⟨xn, xk, rfl, hj6, hq6⟩
      have H6x := Lib.hid (hq6.block H5x.out)
      have HIn6 := Lib.hid (info_sz a xn xk)
      have HOne6 := Lib.hid (cellJ_one (j := a) (jo_form hj6).1 (jo_form hj6).2)
      have HX : Hid (XAt a w xb (W6.setRow xb (cellJ a xn xk).toArray) ∧ (W6.setRow xb (cellJ a xn xk).toArray).heap[j1]? = some (.cells (cellJ a (.slice A1 n1 c1) (.slice A2 n2 c2)).toArray 40 (0, 0)) ∧ (W6.setRow xb (cellJ a xn xk).toArray).heap[j2]? = some (.cells (cellJ b (.slice B1 m1 d1) (.slice B2 m2 d2)).toArray 40 (0, 0))) := Lib.hid (by
        have hxb := HXb.out
        have hl5 := lt_of_heap H5x.out
        refine ⟨⟨xn, xk, setRow_at H6x.out _, ?_, (HQ5.out.trans hq6).setRow (by omega) _⟩, ?_, ?_⟩
        · exact (JO.frame _ _ _ _ _ (fun i e1 _ _ => setRow_other _ _ _ _ (by omega)) hj6).read
        · rw [setRow_other _ _ _ _ (by omega)]; exact hq6.block H51.out
        · rw [setRow_other _ _ _ _ (by omega)]; exact hq6.block H52.out)
      clear hj6 hq6 HCp
      go_wp2_with (refine wpList_store_row rfl 40 (.tmp 8) (.tmp 29) rfl xb (cellJ a xn xk).toArray rfl rfl 40 _ H6x.out HIn6.out rfl HOne6.out ?_)
      go_meet
      exact HX
    | false =>
      have HX : Hid (XAt a w xb W5 ∧ W5.heap[j1]? = some (.cells (cellJ a (.slice A1 n1 c1) (.slice A2 n2 c2)).toArray 40 (0, 0)) ∧ W5.heap[j2]? = some (.cells (cellJ b (.slice B1 m1 d1) (.slice B2 m2 d2)).toArray 40 (0, 0))) := Lib.hid ⟨⟨_, _, H5x.out, HA.out.q HQ5.out, HQ5.out⟩, H51.out, H52.out⟩
      go_wp2_with fail
      go_meet
      exact HX
  case rest =>
    rename World => V
    obtain ⟨⟨xn, xk, hx, hjx, hqV⟩, hv1, hv2⟩ := hcut.out
    obtain ⟨⟨X1, xl1, xc1, rfl⟩, ⟨X2, xl2, xc2, rfl⟩⟩ := jv_slices hjx
    have HV : Hid (∀ W, Q V W → Q w W ∧ JV W a (.slice X1 xl1 xc1) (.slice X2 xl2 xc2) ∧ W.heap[xb]? = some (.cells (cellJ a (.slice X1 xl1 xc1) (.slice X2 xl2 xc2)).toArray 40 (0, 0)) ∧ W.heap[j1]? = some (.cells (cellJ a (.slice A1 n1 c1) (.slice A2 n2 c2)).toArray 40 (0, 0)) ∧ W.heap[j2]? = some (.cells (cellJ b (.slice B1 m1 d1) (.slice B2 m2 d2)).toArray 40 (0, 0))) := Lib.hid (fun W hq => ⟨hqV.trans hq, hjx.q hq, hq.block hx, hq.block hv1, hq.block hv2⟩)
    have HSx := Lib.hid (info_sz a (.slice X1 xl1 xc1) (.slice X2 xl2 xc2))
    clear hcut hx hjx hqV hv1 hv2 H51 H52 H5x HQ5 HCop hsm
    have HQ0 := Lib.hid (Q.refl V)
    have HRx := Lib.hid (HV.out V HQ0.out).2.2.1
    have HC := Lib.hid (HWr.out V _ _ (HV.out V HQ0.out).1 (HV.out V HQ0.out).2.1)
    go_wp2_with (refine wpList_load_row rfl 40 (.tmp 8) rfl xb rfl 40 (cellJ a (.slice X1 xl1 xc1) (.slice X2 xl2 xc2)).toArray (0, 0) _ HRx.out Tryd.underlying40 rfl HSx.out ?_)
    refine HC.out.mono ?_
    rintro e V1 ⟨rfl, hq⟩
    have HQ1 := Lib.hid (HQ0.out.trans hq)
    clear hq HC HRx HQ0 HWr
    have HRa := Lib.hid (HV.out V1 HQ1.out).2.2.2.1
    have HC := Lib.hid (HRw.out V1 (HV.out V1 HQ1.out).1)
    go_wp2_with (refine wpList_load_row rfl 40 (.tmp 3) rfl j1 rfl 40 (cellJ a (.slice A1 n1 c1) (.slice A2 n2 c2)).toArray (0, 0) _ HRa.out Tryd.underlying40 rfl HSa.out ?_)
    refine HC.out.mono ?_
    rintro e V2 ⟨rfl, hq⟩
    have HQ2 := Lib.hid (HQ1.out.trans hq)
    clear hq HC HRa HQ1 HRw
    have HRa := Lib.hid (HV.out V2 HQ2.out).2.2.2.1
    have HRb := Lib.hid (HV.out V2 HQ2.out).2.2.2.2
    have HC := Lib.hid (HRs.out V2 (HV.out V2 HQ2.out).1)
    go_wp2_with (first | refine wpList_load_row rfl 40 (.tmp 3) rfl j1 rfl 40 (cellJ a (.slice A1 n1 c1) (.slice A2 n2 c2)).toArray (0, 0) _ HRa.out Tryd.underlying40 rfl HSa.out ?_ | refine wpList_load_row rfl 40 (.tmp 4) rfl j2 rfl 40 (cellJ b (.slice B1 m1 d1) (.slice B2 m2 d2)).toArray (0, 0) _ HRb.out Tryd.underlying40 rfl HSb.out ?_)
    refine HC.out.mono ?_
    rintro e V3 ⟨rfl, hq⟩
    have HQ3 := Lib.hid (HQ2.out.trans hq)
    clear hq HC HRa HRb HQ2 HRs
    have HRa := Lib.hid (HV.out V3 HQ3.out).2.2.2.1
    have HC := Lib.hid (HRo.out V3 _ _ (HV.out V3 HQ3.out).1 (HA.out.q (HV.out V3 HQ3.out).1))
    go_wp2_with (refine wpList_load_row rfl 40 (.tmp 3) rfl j1 rfl 40 (cellJ a (.slice A1 n1 c1) (.slice A2 n2 c2)).toArray (0, 0) _ HRa.out Tryd.underlying40 rfl HSa.out ?_)
    refine HC.out.mono ?_
    rintro e V4 ⟨rfl, hq⟩
    have HQ4 := Lib.hid (HQ3.out.trans hq)
    clear hq HC HRa HQ3
    have HRx := Lib.hid (HV.out V4 HQ4.out).2.2.1
    have HC := Lib.hid (HFd.out V4 _ _ (HV.out V4 HQ4.out).1 (HV.out V4 HQ4.out).2.1)
    go_wp2_with (refine wpList_load_row rfl 40 (.tmp 8) rfl xb rfl 40 (cellJ a (.slice X1 xl1 xc1) (.slice X2 xl2 xc2)).toArray (0, 0) _ HRx.out Tryd.underlying40 rfl HSx.out ?_)
    refine HC.out.mono ?_
    rintro e V5 ⟨kn, kk, rfl, hjk, hq⟩
    have HQ5 := Lib.hid (HQ4.out.trans hq)
    obtain ⟨⟨K1, p1, q1, rfl⟩, ⟨K2, p2, q2, rfl⟩⟩ := jo_form hjk
    have HJk := Lib.hid hjk
    have HQ45 := Lib.hid hq
    clear hq HC HRx hjk HFd
    have HSk := Lib.hid (info_sz F.1 (.slice K1 p1 q1) (.slice K2 p2 q2))
    have HOk := Lib.hid (cellJ_one (j := F.1) (un := .slice K1 p1 q1) (uk := .slice K2 p2 q2) ⟨_, _, _, rfl⟩ ⟨_, _, _, rfl⟩)
    go_upto_region 11 with (refine wpList_store_row rfl 40 (.tmp 16) (.tmp 50) rfl V5.heap.size (cellJ F.1 (.slice K1 p1 q1) (.slice K2 p2 q2)).toArray rfl rfl 40 _ (heap_alloc_new V5 _) HSk.out rfl HOk.out ?_)
    obtain ⟨V6, hV6⟩ : ∃ V6, (V5.alloc (.cells #[.int .i64 0, .string ⟨#[]⟩, .slice none 0 0, .slice none 0 0] 40)).setRow V5.heap.size (cellJ F.1 (.slice K1 p1 q1) (.slice K2 p2 q2)).toArray = V6 := ⟨_, rfl⟩
    have hk6 : V6.heap[V5.heap.size]? = some (.cells (cellJ F.1 (.slice K1 p1 q1) (.slice K2 p2 q2)).toArray 40 (0, 0)) := by rw [← hV6]; exact setRow_at (heap_alloc_new V5 _) _
    have hq6 : Q V5 V6 := by rw [← hV6]; exact ((Q.refl V5).alloc _).setRow (Nat.le_refl _) _
    rw [hV6]
    obtain ⟨kb, hkb⟩ : ∃ kb, V5.heap.size = kb := ⟨_, rfl⟩
    rw [hkb] at hk6 ⊢
    have HK6 := Lib.hid hk6
    have HQ6 := Lib.hid (HQ5.out.trans hq6)
    have HQ56 := Lib.hid hq6
    have HJ6 := Lib.hid (JO.frame _ _ _ _ _ (fun i _ _ h => Below.block hq6 i h) HJk.out)
    have HKb : Hid (V4.heap.size ≤ V5.heap.size ∧ V5.heap.size ≤ kb) := Lib.hid ⟨HJk.out.le, by omega⟩
    clear hV6 hk6 hq6 hkb HJk
    have HRa := Lib.hid (HV.out V6 HQ6.out).2.2.2.1
    have HC := Lib.hid (HRf.out V6 (HV.out V6 HQ6.out).1)
    go_wp2_with (refine wpList_load_row rfl 40 (.tmp 3) rfl j1 rfl 40 (cellJ a (.slice A1 n1 c1) (.slice A2 n2 c2)).toArray (0, 0) _ HRa.out Tryd.underlying40 rfl HSa.out ?_)
    refine HC.out.mono ?_
    rintro e V7 ⟨ln, lk, rfl, hjl, hq⟩
    obtain ⟨⟨L1, r1, s1, rfl⟩, ⟨L2, r2, s2, rfl⟩⟩ := jv_slices hjl
    have HQ67 := Lib.hid hq
    have HJl := Lib.hid hjl
    have HSl := Lib.hid (info_sz F.1 (.slice L1 r1 s1) (.slice L2 r2 s2))
    have HOl := Lib.hid (cellJ_one (j := F.1) (un := .slice L1 r1 s1) (uk := .slice L2 r2 s2) ⟨_, _, _, rfl⟩ ⟨_, _, _, rfl⟩)
    clear hq HC HRa hjl HRf
    go_upto_region 12 with (refine wpList_store_row rfl 40 (.tmp 18) (.tmp 56) rfl V7.heap.size (cellJ F.1 (.slice L1 r1 s1) (.slice L2 r2 s2)).toArray rfl rfl 40 _ (heap_alloc_new V7 _) HSl.out rfl HOl.out ?_)
    obtain ⟨V8, hV8⟩ : ∃ V8, (V7.alloc (.cells #[.int .i64 0, .string ⟨#[]⟩, .slice none 0 0, .slice none 0 0] 40)).setRow V7.heap.size (cellJ F.1 (.slice L1 r1 s1) (.slice L2 r2 s2)).toArray = V8 := ⟨_, rfl⟩
    have hk8 : V8.heap[V7.heap.size]? = some (.cells (cellJ F.1 (.slice L1 r1 s1) (.slice L2 r2 s2)).toArray 40 (0, 0)) := by rw [← hV8]; exact setRow_at (heap_alloc_new V7 _) _
    have hq8 : Q V7 V8 := by rw [← hV8]; exact ((Q.refl V7).alloc _).setRow (Nat.le_refl _) _
    rw [hV8]
    obtain ⟨lb, hlb⟩ : ∃ lb, V7.heap.size = lb := ⟨_, rfl⟩
    rw [hlb] at hk8 ⊢
    have HL8 := Lib.hid hk8
    have HQ68 := Lib.hid (HQ67.out.trans hq8)
    have HQ8 := Lib.hid (HQ6.out.trans HQ68.out)
    have HK8 := Lib.hid (HQ68.out.block HK6.out)
    have HJl8 := Lib.hid (HJl.out.q hq8)
    have HJk8 := Lib.hid (JO.frame _ _ _ _ _ (fun i _ _ h => Below.block HQ68.out i h) HJ6.out)
    clear hV8 hk8 hq8 hlb HJl HJ6
    obtain ⟨f, th⟩ := F
    have HKm := Lib.hid HF2.out
    go_cut [20] (fun v wx => v = .bool true ∧ Hid (Q V8 wx))
    case first =>
      cases th with
      | false =>
        have HX := Lib.hid (Q.refl V8)
        go_wp2_with fail
        go_meet
        exact ⟨rfl, HX⟩
      | true =>
        have hk8 := HK8.out
        have hl8 := HL8.out
        have x0 : V8.cell? ⟨kb, 0, none⟩ = some (.int .i64 f.kind) := by rw [cell_of_row _ _ _ _ _ _ hk8]; rfl
        have x1 : V8.cell? ⟨kb, 1, none⟩ = some (.string ⟨f.text.toArray⟩) := by rw [cell_of_row _ _ _ _ _ _ hk8]; rfl
        have x2 : V8.cell? ⟨kb, 2, none⟩ = some (.slice K1 p1 q1) := by rw [cell_of_row _ _ _ _ _ _ hk8]; rfl
        have x3 : V8.cell? ⟨kb, 3, none⟩ = some (.slice K2 p2 q2) := by rw [cell_of_row _ _ _ _ _ _ hk8]; rfl
        have y0 : V8.cell? ⟨lb, 0, none⟩ = some (.int .i64 f.kind) := by rw [cell_of_row _ _ _ _ _ _ hl8]; rfl
        have y1 : V8.cell? ⟨lb, 1, none⟩ = some (.string ⟨f.text.toArray⟩) := by rw [cell_of_row _ _ _ _ _ _ hl8]; rfl
        have y2 : V8.cell? ⟨lb, 2, none⟩ = some (.slice L1 r1 s1) := by rw [cell_of_row _ _ _ _ _ _ hl8]; rfl
        have y3 : V8.cell? ⟨lb, 3, none⟩ = some (.slice L2 r2 s2) := by rw [cell_of_row _ _ _ _ _ _ hl8]; rfl
        have HC : Hid (Calls Tryd.prog 26 #[.agg #[.int .i64 f.kind, .string ⟨f.text.toArray⟩, .slice K1 p1 q1, .slice K2 p2 q2], .agg #[.int .i64 f.kind, .string ⟨f.text.toArray⟩, .slice L1 r1 s1, .slice L2 r2 s2]] V8 fun e w' => e = .returned (.bool true) ∧ Q V8 w') := Lib.hid (by
          have h := rSame_any f f V8 _ _ _ _ HJk8.out.read HJl8.out HF3.out HF3.out
          rw [HF1.out rfl] at h
          exact h)
        clear hk8 hl8
        go_wp2_with fail
        refine HC.out.mono ?_
        rintro e V9 ⟨rfl, hq9⟩
        have HX := Lib.hid hq9
        clear hq9 HC x0 x1 x2 x3 y0 y1 y2 y3
        go_wp2_with fail
        go_meet
        exact ⟨rfl, HX⟩
    case rest =>
      rename World => V9
      obtain ⟨rfl, HQ89⟩ := hcut
      have HQ9 := Lib.hid (HQ8.out.trans HQ89.out)
      have hTT : (TX != TX) = false := by simp
      have hCC : (TC != TC) = false := by simp
      have hII : (IS != IS) = false := by simp
      have hOO : (OWN != OWN) = false := by simp
      have HXs : Hid (∀ W, Q V W → W.cell? ⟨xb, 0, none⟩ = some (.int .i64 a.kind) ∧ W.cell? ⟨xb, 1, none⟩ = some (.string ⟨a.text.toArray⟩) ∧ W.cell? ⟨xb, 2, none⟩ = some (.slice X1 xl1 xc1) ∧ W.cell? ⟨xb, 3, none⟩ = some (.slice X2 xl2 xc2)) := Lib.hid (fun W hq => by
        have h := (HV.out W hq).2.2.1
        refine ⟨?_, ?_, ?_, ?_⟩ <;> (rw [cell_of_row _ _ _ _ _ _ h]; rfl))
      have HAs : Hid (∀ W, Q V W → W.cell? ⟨j1, 0, none⟩ = some (.int .i64 a.kind) ∧ W.cell? ⟨j1, 1, none⟩ = some (.string ⟨a.text.toArray⟩) ∧ W.cell? ⟨j1, 2, none⟩ = some (.slice A1 n1 c1) ∧ W.cell? ⟨j1, 3, none⟩ = some (.slice A2 n2 c2)) := Lib.hid (fun W hq => by
        have h := (HV.out W hq).2.2.2.1
        refine ⟨?_, ?_, ?_, ?_⟩ <;> (rw [cell_of_row _ _ _ _ _ _ h]; rfl))
      have HBs : Hid (∀ W, Q V W → W.cell? ⟨j2, 0, none⟩ = some (.int .i64 b.kind) ∧ W.cell? ⟨j2, 1, none⟩ = some (.string ⟨b.text.toArray⟩) ∧ W.cell? ⟨j2, 2, none⟩ = some (.slice B1 m1 d1) ∧ W.cell? ⟨j2, 3, none⟩ = some (.slice B2 m2 d2)) := Lib.hid (fun W hq => by
        have h := (HV.out W hq).2.2.2.2
        refine ⟨?_, ?_, ?_, ?_⟩ <;> (rw [cell_of_row _ _ _ _ _ _ h]; rfl))
      obtain ⟨x0, x1, x2, x3⟩ := HXs.out V9 HQ9.out
      obtain ⟨y0, y1, y2, y3⟩ := HBs.out V9 HQ9.out
      have HC : Hid (Calls Tryd.prog 22 #[.agg #[.int .i64 a.kind, .string ⟨a.text.toArray⟩, .slice X1 xl1 xc1, .slice X2 xl2 xc2], .agg #[.int .i64 b.kind, .string ⟨b.text.toArray⟩, .slice B1 m1 d1, .slice B2 m2 d2]] V9 fun e w' => e = .returned (.bool IS) ∧ Q V9 w') := Lib.hid (HS1.out V9 _ _ (HV.out V9 HQ9.out).1 (HV.out V9 HQ9.out).2.1)
      go_wp2_with fail
      refine HC.out.mono ?_
      rintro e V10 ⟨rfl, hq⟩
      have HQ10 := Lib.hid (HQ9.out.trans hq)
      have HQ8a := Lib.hid (HQ89.out.trans hq)
      clear hq HC x0 x1 x2 x3 y0 y1 y2 y3
      obtain ⟨x0, x1, x2, x3⟩ := HXs.out V10 HQ10.out
      obtain ⟨y0, y1, y2, y3⟩ := HBs.out V10 HQ10.out
      have HC : Hid (Calls Tryd.prog 22 #[.agg #[.int .i64 b.kind, .string ⟨b.text.toArray⟩, .slice B1 m1 d1, .slice B2 m2 d2], .agg #[.int .i64 a.kind, .string ⟨a.text.toArray⟩, .slice X1 xl1 xc1, .slice X2 xl2 xc2]] V10 fun e w' => e = .returned (.bool IS) ∧ Q V10 w') := Lib.hid (HS2.out V10 _ _ (HV.out V10 HQ10.out).1 (HV.out V10 HQ10.out).2.1)
      go_wp2_with fail
      refine HC.out.mono ?_
      rintro e V11 ⟨rfl, hq⟩
      have HQ11 := Lib.hid (HQ10.out.trans hq)
      have HQ8b := Lib.hid (HQ8a.out.trans hq)
      clear hq HC x0 x1 x2 x3 y0 y1 y2 y3
      obtain ⟨x0, x1, x2, x3⟩ := HXs.out V11 HQ11.out
      have HC : Hid (Calls Tryd.prog 22 #[.agg #[.int .i64 a.kind, .string ⟨a.text.toArray⟩, .slice X1 xl1 xc1, .slice X2 xl2 xc2], .agg #[.int .i64 a.kind, .string ⟨a.text.toArray⟩, .slice X1 xl1 xc1, .slice X2 xl2 xc2]] V11 fun e w' => e = .returned (.bool OWN) ∧ Q V11 w') := Lib.hid (HS3.out V11 _ _ (HV.out V11 HQ11.out).1 (HV.out V11 HQ11.out).2.1)
      go_wp2_with fail
      refine HC.out.mono ?_
      rintro e V12 ⟨rfl, hq⟩
      have HQ12 := Lib.hid (HQ11.out.trans hq)
      have HQ8c := Lib.hid (HQ8b.out.trans hq)
      clear hq HC x0 x1 x2 x3
      have HK12 := Lib.hid (HQ8c.out.block HK8.out)
      have HSp := Lib.hid (spoil_all (cntJ f) f (Nat.le_refl _) V4.heap.size V5.heap.size V12 _ _ (JO.frame _ _ _ _ _ (fun i _ _ h => Below.block HQ8c.out i h) HJk8.out) (by have h1 := HQ8c.out.size; have h2 := HQ68.out.size; have h3 := lt_of_heap HK6.out; have h4 := HKb.out.2; omega))
      have hk12 := HK12.out
      have x0 : V12.cell? ⟨kb, 0, none⟩ = some (.int .i64 f.kind) := by rw [cell_of_row _ _ _ _ _ _ hk12]; rfl
      clear hk12
      have HEnd : Hid (∀ W, GI V4.heap.size V5.heap.size V12 W → Q V W) := Lib.hid (fun W hg => HQ4.out.trans (hg.toQ (HQ45.out.trans (HQ56.out.trans (HQ68.out.trans HQ8c.out))) (Nat.le_refl _)))
      cases th
      case' false =>
        have hk0 : f.kind = 0 := HKm.out rfl
        rw [hk0] at x0
        clear hk0
      all_goals
        go_wp2_with (refine wpList_load_row rfl 40 (.tmp 16) rfl kb rfl 40 (cellJ f (.slice K1 p1 q1) (.slice K2 p2 q2)).toArray (0, 0) _ HK12.out Tryd.underlying40 rfl HSk.out ?_)
        refine HSp.out.mono ?_
        rintro e V13 ⟨rfl, hgi⟩
        have HQ13 := Lib.hid (HEnd.out V13 hgi)
        clear x0 hgi HSp HEnd
        obtain ⟨x0, x1, x2, x3⟩ := HXs.out V13 HQ13.out
        obtain ⟨y0, y1, y2, y3⟩ := HAs.out V13 HQ13.out
        cases OWN
        case false =>
          have HX := Lib.hid (HV.out V13 HQ13.out).1
          go_wp2_with fail
          go_ret
          exact ⟨rfl, HX.out⟩
        case true =>
          have HC : Hid (Calls Tryd.prog 26 #[.agg #[.int .i64 a.kind, .string ⟨a.text.toArray⟩, .slice X1 xl1 xc1, .slice X2 xl2 xc2], .agg #[.int .i64 a.kind, .string ⟨a.text.toArray⟩, .slice A1 n1 c1, .slice A2 n2 c2]] V13 fun e w' => e = .returned (.bool true) ∧ Q V13 w') := Lib.hid (HRo.out V13 _ _ (HV.out V13 HQ13.out).1 (HV.out V13 HQ13.out).2.1)
          go_wp2_with fail
          refine HC.out.mono ?_
          rintro e V14 ⟨rfl, hq⟩
          have HX := Lib.hid (HV.out V14 (HQ13.out.trans hq)).1
          clear hq HC x0 x1 x2 x3 y0 y1 y2 y3
          go_wp2_with fail
          go_ret
          exact ⟨rfl, HX.out⟩
end Go.Proofs.YtlhhiiemojhjdaaDoor
