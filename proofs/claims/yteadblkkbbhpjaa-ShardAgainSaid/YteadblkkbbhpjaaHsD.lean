/- (*hash).sum. -/
import Derived.Test.YteadblkkbbhpjaaHsC
import Derived.Test.YteadblkkbbhpjaaStrs
set_option linter.unusedVariables false
namespace Go.Proofs.Yteadblkkbbhpjaa
open Go Go.RowKit
theorem und107 : (Try.prog.info? 107).map (·.size) = some 69 := by kernel_rfl
theorem hashL_size {bl : List UInt8} (h : bl.length = 64) (A : Alg) (sb cap many size : Nat) : (hashL A sb cap bl many size).toArray.size = 69 := by simp [hashL, h]
theorem hashL_one (A : Alg) (sb cap many size : Nat) (bl : List UInt8) : (hashL A sb cap bl many size).toArray.all (·.oneCell') = true := by
  rw [Array.all_eq_true_iff_forall_mem]
  intro v hv
  simp only [hashL, List.mem_toArray, List.mem_cons, List.mem_append, List.mem_map, List.not_mem_nil, or_false] at hv
  rcases hv with rfl | ⟨x, _, rfl⟩ | rfl | rfl | rfl | rfl <;> rfl
/-- The worlds behind the copy of the struct. -/
theorem sum_start (w : World) (A : Alg) (sb cap many size : Nat) (bl : List UInt8) (hb : bl.length = 64) (cs : Array Value) :
    ∃ w3, w3 = (w.alloc (.cells cs 107)).setRow w.heap.size (hashL A sb cap bl many size).toArray ∧ w3.heap.size = w.heap.size + 1 ∧ HashAt w3 A w.heap.size sb cap bl many size ∧ Q w w3 := by
  refine ⟨_, rfl, by simp, ⟨?_, hb⟩, Q.setRow ((Q.refl w).alloc _) (Nat.le_refl _) _⟩
  simp only [World.setRow, Array.getElem?_modify, if_true]
  rw [heap_alloc_new]
  rfl
theorem HashAt.setState {w : World} {A : Alg} {hb sb cap : Nat} {bl : List UInt8} {many size : Nat} (h : HashAt w A hb sb cap bl many size) (sb' cap' : Nat) : HashAt (w.setCell ⟨hb, 0, none⟩ (.slice (some ⟨sb', 0, none⟩) A.n cap')) A hb sb' cap' bl many size := by
  refine ⟨?_, h.2⟩
  rw [heap_setCell_same w hb 0 _ _ _ h.1]
  congr 2
def outW (hi : Bool) (x : B32) : List UInt8 := bytesL hi x.toNat 4
def padA (hi : Bool) (t : List UInt8) : List UInt8 := t ++ 128 :: List.replicate ((119 - t.length % 64) % 64) 0 ++ bytesL hi (8 * t.length % 18446744073709551616) 8
/-- The sum of a text. -/
def sumA (A : Alg) (t : List UInt8) : List UInt8 := (blocksA A (padA A.hi t) ((padA A.hi t).length / 64)).flatMap (outW A.hi)
theorem bytesL_length (hi : Bool) (n m : Nat) : (bytesL hi n m).length = m := by unfold bytesL; split <;> simp
theorem flat_length (hi : Bool) (l : List B32) : (l.flatMap (outW hi)).length = 4 * l.length := by
  induction l with
  | nil => rfl
  | cons a t ih => simp only [List.flatMap_cons, List.length_append, ih, outW, bytesL_length, List.length_cons]; omega
theorem sumA_length (A : Alg) (t : List UInt8) : (sumA A t).length = 4 * A.n := by unfold sumA; rw [flat_length, blocksA_length]
theorem info32 : (Try.prog.info? 81).map (fun i => (i.zero, i.size, i.bytes)) = some (some (.int .u32 0), 1, 4) := by kernel_rfl
theorem st_news {w : World} {g : Nat} {l : List B32} (h : StAt w g l) : ∀ j u, (l.map u32V)[j]? = some u → w.cell? ((⟨g, 0, none⟩ : Addr).add j) = some u := by
  intro j u hu
  have hj : j < l.length := by have := (List.getElem?_eq_some_iff.1 hu).1; simpa using this
  rw [add_off, Nat.zero_add, (h j hj).1]
  rw [List.getElem?_map, List.getElem?_eq_getElem hj] at hu
  simp only [Option.map_some, Option.some.injEq] at hu
  rw [← hu]
  simp [u32V, gW, List.getD, hj]
theorem gb_q {a b : World} (h : a.grownBy b none) : Q a b := ⟨h.os, h.tape, h.output, h.size, fun k hk => h.block k hk (by simp)⟩
theorem rep_zero (c : Nat) : Lib.repeatL [0] c = List.replicate c 0 := by
  induction c with
  | zero => rfl
  | succ c ih => rw [Lib.repeatL, ih]; rfl
theorem u32_one (l : List B32) : ∀ u ∈ l.map u32V, u.oneCell' = true := by
  intro u hu
  obtain ⟨x, _, rfl⟩ := List.mem_map.1 hu
  rfl
/-- A row that append has laid holds the words. -/
theorem st_own {w : World} {base : Nat} {e : TypeId} {v : Value} {l : List B32} (h : w.ownsRow base e 1 v l.length (l.map u32V)) (hl : 0 < l.length) :
    ∃ g cap, v = .slice (some ⟨g, 0, none⟩) l.length cap ∧ base ≤ g ∧ StAt w g l := by
  rcases h.2 with ⟨_, h0⟩ | ⟨g, cap, cur, rfl, hb, hh, hn, hm, hcs, ht⟩
  · omega
  · refine ⟨g, cap, rfl, hb, fun i hi => ⟨?_, frozen_of_row w g i _ _ hh⟩⟩
    rw [cell_of_row _ _ _ _ _ _ hh]
    have : (l.map u32V)[i]? = cur.toList[i]? := by rw [← ht, List.getElem?_take, if_pos (by omega)]
    rw [List.getElem?_map, List.getElem?_eq_getElem hi] at this
    rw [Array.getElem?_toList] at this
    rw [← this]
    simp [u32V, gW, List.getD, hi]
set_option maxRecDepth 100000 in
set_option maxHeartbeats 4000000 in
theorem sum_any (A : Alg) (hb sb cap : Nat) (t : List UInt8) (w : World) (h : ToldAt w A hb sb cap t) :
    Calls Try.prog 54 #[.pointer (some ⟨hb, 0, none⟩)] w fun e w' => e = .returned (.string ⟨(sumA A t).toArray⟩) ∧ Q w w' := by
  obtain ⟨⟨bl, hH, hbl⟩, hS, hne⟩ := h
  have HB := Lib.hid hbl
  have HS := Lib.hid hS
  have HH := Lib.hid hH
  have h69 := hashL_size hH.2 A sb cap (t.length % 64) (t.length % 18446744073709551616)
  have H69 := Lib.hid h69
  clear hbl hS h69 hH
  go_enter Try.func54, Try.ntmps54
  iterate 17 go_step
  refine wpList_load_row rfl 107 (.tmp 9) rfl hb rfl _ _ _ _ HH.out.1 Try.underlying107 rfl (by rw [H69.out]; exact und107) ?_
  iterate 3 go_step
  refine wpList_store_row rfl 107 (.tmp 3) (.tmp 10) rfl w.heap.size (hashL A sb cap bl (t.length % 64) (t.length % 18446744073709551616)).toArray rfl rfl 107 _ (heap_alloc_new w _) (by rw [H69.out]; exact und107) (by rw [H69.out]; rfl) (hashL_one _ _ _ _ _ _) ?_
  obtain ⟨w3, hw3, hsz3, hH3, hq3⟩ := sum_start w A sb cap (t.length % 64) (t.length % 18446744073709551616) bl HH.out.2 _
  rw [← hw3]
  clear hw3
  have hc0 := hq3.cell HH.out.c0
  have HC65 := Lib.hid HH.out.c65
  have hS3 := GX.st (S := []) (GX.q hq3) (by simp) HS.out
  have hl := blocksA_length A t (t.length / 64)
  have hn0 := A.n0
  have hn8 := A.n8
  have hf0 := hH3.frozen 0
  have hcc := hH3.c0
  have HH3 := Lib.hid hH3
  have HQ3 := Lib.hid hq3
  have HSZ := Lib.hid hsz3
  have HS3 := Lib.hid hS3
  have HL := Lib.hid hl
  clear hH3 hq3 hsz3 hS3 hl HH HS H69
  obtain ⟨i4, hi4, hz4, hs4, hb4⟩ := info_parts info32
  have HI := Lib.hid hi4
  have HZ := Lib.hid hz4
  have HSI := Lib.hid hs4
  have HBY := Lib.hid hb4
  clear hi4 hz4 hs4 hb4
  go_upto_region 3 with (at_builtin; refine wpList_append_own _ rfl (.const (.slice none 0 0)) (.tmp 14) 103 rfl w3.heap.size 81 i4 (.int .u32 0) 1 4 Try.underlying103 HI.out HZ.out HSI.out HBY.out rfl (by decide) (.slice none 0 0) 0 [] rfl (World.ownsRow_nil _ _ _ _) ⟨sb, 0, none⟩ A.n cap ((blocksA A t (t.length / 64)).map u32V) rfl (by simp [HL.out]) (st_news HS3.out) (u32_one _) (by unfold maxLen; omega) (by omega) (Nat.le_refl _) ?_; intro v' w4 hown hg4 _; have hq4 := gb_q (show w3.grownBy w4 none from hg4); have hH4 := HH3.out.x (GX.q (S := []) hq4) (by simp); obtain ⟨sg, cg, hv, hsg, hSg⟩ := st_own (base := w3.heap.size) (l := blocksA A t (t.length / 64)) (by rw [HL.out]; simpa using hown) (by rw [HL.out]; exact hn0); rw [hv, HL.out]; rw [HSZ.out] at hsg; have hcc := hH4.c0; have hf0 := hH4.frozen 0; have HH4 := Lib.hid hH4; have HSG := Lib.hid hSg; have HQ4 := Lib.hid (HQ3.out.trans hq4); clear hv hown hg4 hq4 hH4 hSg)
  obtain ⟨w5, hw5, hT5, hq5⟩ : ∃ w5, w5 = w4.setCell ⟨w.heap.size, 0, none⟩ (.slice (some ⟨sg, 0, none⟩) A.n cg) ∧ ToldAt w5 A w.heap.size sg cg t ∧ Q w w5 := by
    refine ⟨_, rfl, ⟨⟨bl, HashAt.setState HH4.out sg cg, HB.out⟩, ?_, by omega⟩, Q.setNew HQ4.out (Nat.le_refl _) _⟩
    exact ((GX.refl [w.heap.size] w4).set (by simp) _ _).st (by simp; omega) HSG.out
  rw [← hw5]
  clear hw5 hcc hf0 HH4 HSG HQ4 HSZ HS3 HL HI HZ HSI HBY HH3 HQ3 hc0
  have hne5 : sg ≠ w.heap.size := by omega
  have hM : t.length % 64 < 64 := by omega
  have hw8 : IntKind.u64.wrap (8 * ((t.length % 18446744073709551616 : Nat) : Int)) = ((8 * t.length % 18446744073709551616 : Nat) : Int) := by rw [IntWalk_u64]; omega
  have HT5 := Lib.hid hT5
  have HQ5 := Lib.hid hq5
  obtain ⟨⟨bl5, hH5, _⟩, _, _⟩ := hT5
  have c65 := hq5.cell HC65.out
  have c66 := hH5.c66
  clear hH5 hq5 HC65
  have hs8 : 8 * t.length % 18446744073709551616 < 18446744073709551616 := by omega
  generalize hS8 : 8 * t.length % 18446744073709551616 = S8 at hw8 hs8
  generalize hSZ : t.length % 18446744073709551616 = SZ at hw8 c66
  generalize hMM : t.length % 64 = m at c65 hM
  have HS8 := Lib.hid hS8
  have HLT := Lib.hid hs8
  have HSZ := Lib.hid hSZ
  have HMM := Lib.hid hMM
  clear hS8 hSZ hMM hs8
  have e1 : (119 - (m : Int)) % 64 = (((119 - m) % 64 : Nat) : Int) := by omega
  have E1 := Lib.hid e1
  clear e1
  go_wp2_with fail
  rw [E1.out]
  with_reducible refine (Try.strings_Repeat ⟨[(0 : UInt8)].toArray⟩ ((119 - m) % 64) _ (by omega) (by simp [ByteArray.size]; omega)).mono ?_
  rintro x w6 ⟨rfl, hq6⟩
  rw [show Lib.repeatL (ByteArray.mk [(0 : UInt8)].toArray).data.toList ((119 - m) % 64) = List.replicate ((119 - m) % 64) 0 from rep_zero _]
  generalize hZ : List.replicate ((119 - m) % 64) (0 : UInt8) = Z
  have hzl : Z.length ≤ 63 := by rw [← hZ, List.length_replicate]; omega
  have HZ := Lib.hid hZ
  clear hZ
  have hT6 := ToldAt.x HT5.out (GX.q (S := []) hq6) (by simp) (by simp)
  have HT6 := Lib.hid hT6
  have HQ6 := Lib.hid (HQ5.out.trans hq6)
  clear hT6 hq6 c65 c66 hw8 E1 HT5 HQ5
  go_wp2_with fail
  with_reducible refine (write_any A w.heap.size sg cg t (128 :: Z) _ HT6.out (by simp; omega)).mono ?_
  rintro x w7 ⟨rfl, hT7, hg7⟩
  have HT7 := Lib.hid hT7
  have HQ7 := Lib.hid (hg7.toQ HQ6.out (by intro k hk; simp at hk; omega))
  obtain ⟨⟨bl7, hH7, _⟩, _, _⟩ := hT7
  have HC7 := Lib.hid hH7.c68
  clear hH7 hg7 HT6 HQ6
  go_wp2_with fail
  with_reducible refine (bytes8_any A.hi w.heap.size S8 _ HC7.out HLT.out).mono ?_
  rintro x w8 ⟨rfl, hq8⟩
  generalize hY : bytesL A.hi (S8) 8 = Y
  have hyl : Y.length ≤ 8 := by rw [← hY]; unfold bytesL; split <;> simp
  have HY := Lib.hid hY
  have HT8 := Lib.hid (ToldAt.x HT7.out (GX.q (S := []) hq8) (by simp) (by simp))
  have HQ8 := Lib.hid (HQ7.out.trans hq8)
  clear hY hq8 HT7 HQ7 HC7
  go_wp2_with fail
  with_reducible refine (write_any A w.heap.size sg cg (t ++ (128 :: Z)) Y _ HT8.out (by omega)).mono ?_
  rintro x w9 ⟨rfl, hT9, hg9⟩
  have HT9 := Lib.hid hT9
  have HQ9 := Lib.hid (hg9.toQ HQ8.out (by intro k hk; simp at hk; omega))
  clear hT9 hg9 HT8 HQ8
  have hpad : t ++ 128 :: Z ++ Y = padA A.hi t := by unfold padA; rw [← HY.out, ← HZ.out, ← HMM.out, ← HS8.out]
  rw [hpad] at HT9
  generalize hT : padA A.hi t = T at *
  have hsum : sumA A t = (blocksA A T (T.length / 64)).flatMap (outW A.hi) := by unfold sumA; rw [hT]
  have HSUM := Lib.hid hsum
  obtain ⟨⟨bl9, hH9, _⟩, hS9, _⟩ := HT9.out
  have hl9 := blocksA_length A T (T.length / 64)
  generalize blocksA A T (T.length / 64) = ST at *
  have c0 := hH9.c0
  have c68 := hH9.c68
  have HS9 := Lib.hid hS9
  have HL9 := Lib.hid hl9
  have H68 := Lib.hid c68
  clear hpad hT hsum hH9 hS9 hl9 c68 HT9
  go_wp2_with fail
  clear c0
  go_loopw [5, 35] (fun s i wr => ∃ k : Nat, k ≤ A.n ∧ i = .int .i64 k ∧ s = .string ⟨((ST.take k).flatMap (outW A.hi)).toArray⟩ ∧ Q w9 wr) (fun _ i _ => A.n - (intOf i).toNat)
  case atStart => exact ⟨0, by omega, rfl, rfl, Q.refl _⟩
  case round =>
    obtain ⟨k, hk, rfl, rfl, hqr⟩ := hrel
    by_cases hlt : k < A.n
    · have hd : decide (k < A.n) = true := by simpa using hlt
      have hc := hqr.cell (HS9.out k (by rw [HL9.out]; exact hlt)).1
      have h68 := hqr.cell H68.out
      have hfl : ((ST.take k).flatMap (outW A.hi)).length ≤ 32 := by rw [flat_length, List.length_take]; omega
      have hsn : (ST.take (k + 1)).flatMap (outW A.hi) = (ST.take k).flatMap (outW A.hi) ++ bytesL A.hi (gW ST k).toNat 4 := by
        rw [List.take_succ_eq_append_getElem (by rw [HL9.out]; exact hlt), List.flatMap_append]
        simp [outW, gW, List.getD, HL9.out, hlt]
      have hwr : IntKind.u64.wrap ((gW ST k).toNat : Int) = ((gW ST k).toNat : Int) := by rw [IntWalk_u64]; have := (gW ST k).isLt; omega
      have h32 := (gW ST k).isLt
      generalize gW ST k = X at *
      generalize (ST.take k).flatMap (outW A.hi) = F at *
      have HSN := Lib.hid hsn
      have HQR := Lib.hid hqr
      have H6 := Lib.hid h68
      have H32 := Lib.hid h32
      clear hsn hqr h68 h32
      go_wp2_with fail
      have h64 : X.toNat < 18446744073709551616 := by have := H32.out; omega
      with_reducible refine (bytes4_any A.hi w.heap.size X.toNat _ H6.out h64).mono ?_
      rintro x w10 ⟨rfl, hq10⟩
      have hyl : (bytesL A.hi X.toNat 4).length ≤ 4 := by unfold bytesL; split <;> simp
      clear h64 hc hwr
      go_wp2_with fail
      go_roundw
      case rel => exact ⟨k + 1, by omega, by go_num, by rw [HSN.out], HQR.out.trans hq10⟩
      case measure => simp [intOf]; omega
    · obtain rfl : k = A.n := by omega
      have hd : decide (A.n < A.n) = false := by simp
      rw [List.take_of_length_le (by rw [HL9.out]; exact Nat.le_refl _), ← HSUM.out]
      have HQR := Lib.hid (HQ9.out.trans hqr)
      clear hqr
      go_wp2_with fail
      go_ret
      exact ⟨rfl, HQR.out⟩
end Go.Proofs.Yteadblkkbbhpjaa
