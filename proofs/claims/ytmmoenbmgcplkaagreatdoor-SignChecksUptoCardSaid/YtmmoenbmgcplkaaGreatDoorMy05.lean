/- Texts of this proof, laid into one: HsD, ShB, Md, MdB, HsE, HsS, Mac, Cod. -/
import Derived.Test.YtmmoenbmgcplkaaGreatDoorMy04
import Derived.Deep.DeepCutAuto
import Derived.Deep.CutBlock
import Derived.Test.YtmmoenbmgcplkaaGreatDoorShelf
import Derived.Deep.RegionHeld3
set_option linter.unusedVariables false
namespace Go.Proofs.YtmmoenbmgcplkaaGreatDoor
open Go Go.RowKit
theorem und107 : (Tryz.prog.info? 148).map (·.size) = some 69 := by kernel_rfl
theorem hashL_size {bl : List UInt8} (h : bl.length = 64) (A : Alg) (sb cap many size : Nat) : (hashL A sb cap bl many size).toArray.size = 69 := by simp [hashL, h]
theorem hashL_one (A : Alg) (sb cap many size : Nat) (bl : List UInt8) : (hashL A sb cap bl many size).toArray.all (·.oneCell') = true := by
  rw [Array.all_eq_true_iff_forall_mem]
  intro v hv
  simp only [hashL, List.mem_toArray, List.mem_cons, List.mem_append, List.mem_map, List.not_mem_nil, or_false] at hv
  rcases hv with rfl | ⟨x, _, rfl⟩ | rfl | rfl | rfl | rfl <;> rfl
theorem sum_start (w : World) (A : Alg) (sb cap many size : Nat) (bl : List UInt8) (hb : bl.length = 64) (cs : Array Value) :
    ∃ w3, w3 = (w.alloc (.cells cs 148)).setRow w.heap.size (hashL A sb cap bl many size).toArray ∧ w3.heap.size = w.heap.size + 1 ∧ HashAt w3 A w.heap.size sb cap bl many size ∧ Q w w3 := by
  refine ⟨_, rfl, by simp, ⟨?_, hb⟩, Q.setRow ((Q.refl w).alloc _) (Nat.le_refl _) _⟩
  simp only [World.setRow, Array.getElem?_modify, if_true]
  rw [heap_alloc_new]
  rfl
theorem HashAt.setState {w : World} {A : Alg} {hb sb cap : Nat} {bl : List UInt8} {many size : Nat} (h : HashAt w A hb sb cap bl many size) (sb' cap' : Nat) : HashAt (w.setCell ⟨hb, 0, none⟩ (.slice (some ⟨sb', 0, none⟩) A.n cap')) A hb sb' cap' bl many size := by
  refine ⟨?_, h.2⟩
  rw [heap_setCell_same w hb 0 _ _ _ h.1]
  congr 2
def outW (hi : Bool) (x : B32) : List UInt8 := bytesL hi x.toNat 4
def padA (hi : Bool) (t : List UInt8) : List UInt8 := t ++ 128 :: List.replicate ((119 - t.length % 64) % 64) 0 ++ bytesL hi (8 * t.length % 18446744073709551616) 8
def sumA (A : Alg) (t : List UInt8) : List UInt8 := (blocksA A (padA A.hi t) ((padA A.hi t).length / 64)).flatMap (outW A.hi)
theorem bytesL_length (hi : Bool) (n m : Nat) : (bytesL hi n m).length = m := by unfold bytesL; split <;> simp
theorem flat_length (hi : Bool) (l : List B32) : (l.flatMap (outW hi)).length = 4 * l.length := by
  induction l with
  | nil => rfl
  | cons a t ih => simp only [List.flatMap_cons, List.length_append, ih, outW, bytesL_length, List.length_cons]; omega
theorem sumA_length (A : Alg) (t : List UInt8) : (sumA A t).length = 4 * A.n := by unfold sumA; rw [flat_length, blocksA_length]
theorem info32 : (Tryz.prog.info? 123).map (fun i => (i.zero, i.size, i.bytes)) = some (some (.int .u32 0), 1, 4) := by kernel_rfl
theorem st_news {w : World} {g : Nat} {l : List B32} (h : StAt w g l) : ∀ j u, (l.map u32V)[j]? = some u → w.cell? ((⟨g, 0, none⟩ : Addr).add j) = some u := by
  intro j u hu
  have hj : j < l.length := by have := (List.getElem?_eq_some_iff.1 hu).1; simpa using this
  rw [add_off, Nat.zero_add, (h j hj).1]
  rw [List.getElem?_map, List.getElem?_eq_getElem hj] at hu
  simp only [Option.map_some, Option.some.injEq] at hu
  rw [← hu]
  simp [u32V, gW, List.getD, hj]
theorem gb_q {a b : World} (h : a.grownBy b none) : Q a b := ⟨h.os, h.tape, h.output, h.size, fun k hk => h.block k hk (by simp)⟩
theorem rep_zero (c : Nat) : Lib.repeatL [0] c = List.replicate c 0 := by
  induction c with
  | zero => rfl
  | succ c ih => rw [Lib.repeatL, ih]; rfl
theorem u32_one (l : List B32) : ∀ u ∈ l.map u32V, u.oneCell' = true := by
  intro u hu
  obtain ⟨x, _, rfl⟩ := List.mem_map.1 hu
  rfl
theorem st_own {w : World} {base : Nat} {e : TypeId} {v : Value} {l : List B32} (h : w.ownsRow base e 1 v l.length (l.map u32V)) (hl : 0 < l.length) :
    ∃ g cap, v = .slice (some ⟨g, 0, none⟩) l.length cap ∧ base ≤ g ∧ StAt w g l := by
  rcases h.2 with ⟨_, h0⟩ | ⟨g, cap, cur, rfl, hb, hh, hn, hm, hcs, ht⟩
  · omega
  · refine ⟨g, cap, rfl, hb, fun i hi => ⟨?_, frozen_of_row w g i _ _ hh⟩⟩
    rw [cell_of_row _ _ _ _ _ _ hh]
    have : (l.map u32V)[i]? = cur.toList[i]? := by rw [← ht, List.getElem?_take, if_pos (by omega)]
    rw [List.getElem?_map, List.getElem?_eq_getElem hi] at this
    rw [Array.getElem?_toList] at this
    rw [← this]
    simp [u32V, gW, List.getD, hi]
set_option maxRecDepth 100000 in
set_option maxHeartbeats 4000000 in
theorem sum_any (A : Alg) (hb sb cap : Nat) (t : List UInt8) (w : World) (h : ToldAt w A hb sb cap t) :
    Calls Tryz.prog 64 #[.pointer (some ⟨hb, 0, none⟩)] w fun e w' => e = .returned (.string ⟨(sumA A t).toArray⟩) ∧ Q w w' := by
  obtain ⟨⟨bl, hH, hbl⟩, hS, hne⟩ := h
  have HB := Lib.hid hbl
  have HS := Lib.hid hS
  have HH := Lib.hid hH
  have h69 := hashL_size hH.2 A sb cap (t.length % 64) (t.length % 18446744073709551616)
  have H69 := Lib.hid h69
  clear hbl hS h69 hH
  go_enter Tryz.func64, Tryz.ntmps64
  iterate 17 go_step
  refine wpList_load_row rfl 148 (.tmp 9) rfl hb rfl _ _ _ _ HH.out.1 Tryz.underlying148 rfl (by rw [H69.out]; exact und107) ?_
  iterate 3 go_step
  refine wpList_store_row rfl 148 (.tmp 3) (.tmp 10) rfl w.heap.size (hashL A sb cap bl (t.length % 64) (t.length % 18446744073709551616)).toArray rfl rfl 148 _ (heap_alloc_new w _) (by rw [H69.out]; exact und107) (by rw [H69.out]; rfl) (hashL_one _ _ _ _ _ _) ?_
  obtain ⟨w3, hw3, hsz3, hH3, hq3⟩ := sum_start w A sb cap (t.length % 64) (t.length % 18446744073709551616) bl HH.out.2 _
  rw [← hw3]
  clear hw3
  have hc0 := hq3.cell HH.out.c0
  have HC65 := Lib.hid HH.out.c65
  have hS3 := GX.st (S := []) (GX.q hq3) (by simp) HS.out
  have hl := blocksA_length A t (t.length / 64)
  have hn0 := A.n0
  have hn8 := A.n8
  have hf0 := hH3.frozen 0
  have hcc := hH3.c0
  have HH3 := Lib.hid hH3
  have HQ3 := Lib.hid hq3
  have HSZ := Lib.hid hsz3
  have HS3 := Lib.hid hS3
  have HL := Lib.hid hl
  clear hH3 hq3 hsz3 hS3 hl HH HS H69
  obtain ⟨i4, hi4, hz4, hs4, hb4⟩ := info_parts info32
  have HI := Lib.hid hi4
  have HZ := Lib.hid hz4
  have HSI := Lib.hid hs4
  have HBY := Lib.hid hb4
  clear hi4 hz4 hs4 hb4
  go_upto_region 3 with (at_builtin; refine wpList_append_own _ rfl (.const (.slice none 0 0)) (.tmp 14) 144 rfl w3.heap.size 123 i4 (.int .u32 0) 1 4 Tryz.underlying144 HI.out HZ.out HSI.out HBY.out rfl (by decide) (.slice none 0 0) 0 [] rfl (World.ownsRow_nil _ _ _ _) ⟨sb, 0, none⟩ A.n cap ((blocksA A t (t.length / 64)).map u32V) rfl (by simp [HL.out]) (st_news HS3.out) (u32_one _) (by unfold maxLen; omega) (by omega) (Nat.le_refl _) ?_; intro v' w4 hown hg4 _; have hq4 := gb_q (show w3.grownBy w4 none from hg4); have hH4 := HH3.out.x (GX.q (S := []) hq4) (by simp); obtain ⟨sg, cg, hv, hsg, hSg⟩ := st_own (base := w3.heap.size) (l := blocksA A t (t.length / 64)) (by rw [HL.out]; simpa using hown) (by rw [HL.out]; exact hn0); rw [hv, HL.out]; rw [HSZ.out] at hsg; have hcc := hH4.c0; have hf0 := hH4.frozen 0; have HH4 := Lib.hid hH4; have HSG := Lib.hid hSg; have HQ4 := Lib.hid (HQ3.out.trans hq4); clear hv hown hg4 hq4 hH4 hSg)
  obtain ⟨w5, hw5, hT5, hq5⟩ : ∃ w5, w5 = w4.setCell ⟨w.heap.size, 0, none⟩ (.slice (some ⟨sg, 0, none⟩) A.n cg) ∧ ToldAt w5 A w.heap.size sg cg t ∧ Q w w5 := by
    refine ⟨_, rfl, ⟨⟨bl, HashAt.setState HH4.out sg cg, HB.out⟩, ?_, by omega⟩, Q.setNew HQ4.out (Nat.le_refl _) _⟩
    exact ((GX.refl [w.heap.size] w4).set (by simp) _ _).st (by simp; omega) HSG.out
  rw [← hw5]
  clear hw5 hcc hf0 HH4 HSG HQ4 HSZ HS3 HL HI HZ HSI HBY HH3 HQ3 hc0
  have hne5 : sg ≠ w.heap.size := by omega
  have hM : t.length % 64 < 64 := by omega
  have hw8 : IntKind.u64.wrap (8 * ((t.length % 18446744073709551616 : Nat) : Int)) = ((8 * t.length % 18446744073709551616 : Nat) : Int) := by rw [IntWalk_u64]; omega
  have HT5 := Lib.hid hT5
  have HQ5 := Lib.hid hq5
  obtain ⟨⟨bl5, hH5, _⟩, _, _⟩ := hT5
  have c65 := hq5.cell HC65.out
  have c66 := hH5.c66
  clear hH5 hq5 HC65
  have hs8 : 8 * t.length % 18446744073709551616 < 18446744073709551616 := by omega
  generalize hS8 : 8 * t.length % 18446744073709551616 = S8 at hw8 hs8
  generalize hSZ : t.length % 18446744073709551616 = SZ at hw8 c66
  generalize hMM : t.length % 64 = m at c65 hM
  have HS8 := Lib.hid hS8
  have HLT := Lib.hid hs8
  have HSZ := Lib.hid hSZ
  have HMM := Lib.hid hMM
  clear hS8 hSZ hMM hs8
  have e1 : (119 - (m : Int)) % 64 = (((119 - m) % 64 : Nat) : Int) := by omega
  have E1 := Lib.hid e1
  clear e1
  go_wp2_with fail
  rw [E1.out]
  with_reducible refine (Tryz.strings_Repeat ⟨[(0 : UInt8)].toArray⟩ ((119 - m) % 64) _ (by omega) (by simp [ByteArray.size]; omega)).mono ?_
  rintro x w6 ⟨rfl, hq6⟩
  rw [show Lib.repeatL (ByteArray.mk [(0 : UInt8)].toArray).data.toList ((119 - m) % 64) = List.replicate ((119 - m) % 64) 0 from rep_zero _]
  generalize hZ : List.replicate ((119 - m) % 64) (0 : UInt8) = Z
  have hzl : Z.length ≤ 63 := by rw [← hZ, List.length_replicate]; omega
  have HZ := Lib.hid hZ
  clear hZ
  have hT6 := ToldAt.x HT5.out (GX.q (S := []) hq6) (by simp) (by simp)
  have HT6 := Lib.hid hT6
  have HQ6 := Lib.hid (HQ5.out.trans hq6)
  clear hT6 hq6 c65 c66 hw8 E1 HT5 HQ5
  go_wp2_with fail
  with_reducible refine (write_any A w.heap.size sg cg t (128 :: Z) _ HT6.out (by simp; omega)).mono ?_
  rintro x w7 ⟨rfl, hT7, hg7⟩
  have HT7 := Lib.hid hT7
  have HQ7 := Lib.hid (hg7.toQ HQ6.out (by intro k hk; simp at hk; omega))
  obtain ⟨⟨bl7, hH7, _⟩, _, _⟩ := hT7
  have HC7 := Lib.hid hH7.c68
  clear hH7 hg7 HT6 HQ6
  go_wp2_with fail
  with_reducible refine (bytes8_any A.hi w.heap.size S8 _ HC7.out HLT.out).mono ?_
  rintro x w8 ⟨rfl, hq8⟩
  generalize hY : bytesL A.hi (S8) 8 = Y
  have hyl : Y.length ≤ 8 := by rw [← hY]; unfold bytesL; split <;> simp
  have HY := Lib.hid hY
  have HT8 := Lib.hid (ToldAt.x HT7.out (GX.q (S := []) hq8) (by simp) (by simp))
  have HQ8 := Lib.hid (HQ7.out.trans hq8)
  clear hY hq8 HT7 HQ7 HC7
  go_wp2_with fail
  with_reducible refine (write_any A w.heap.size sg cg (t ++ (128 :: Z)) Y _ HT8.out (by omega)).mono ?_
  rintro x w9 ⟨rfl, hT9, hg9⟩
  have HT9 := Lib.hid hT9
  have HQ9 := Lib.hid (hg9.toQ HQ8.out (by intro k hk; simp at hk; omega))
  clear hT9 hg9 HT8 HQ8
  have hpad : t ++ 128 :: Z ++ Y = padA A.hi t := by unfold padA; rw [← HY.out, ← HZ.out, ← HMM.out, ← HS8.out]
  rw [hpad] at HT9
  generalize hT : padA A.hi t = T at *
  have hsum : sumA A t = (blocksA A T (T.length / 64)).flatMap (outW A.hi) := by unfold sumA; rw [hT]
  have HSUM := Lib.hid hsum
  obtain ⟨⟨bl9, hH9, _⟩, hS9, _⟩ := HT9.out
  have hl9 := blocksA_length A T (T.length / 64)
  generalize blocksA A T (T.length / 64) = ST at *
  have c0 := hH9.c0
  have c68 := hH9.c68
  have HS9 := Lib.hid hS9
  have HL9 := Lib.hid hl9
  have H68 := Lib.hid c68
  clear hpad hT hsum hH9 hS9 hl9 c68 HT9
  go_wp2_with fail
  clear c0
  go_loopw [5, 35] (fun s i wr => ∃ k : Nat, k ≤ A.n ∧ i = .int .i64 k ∧ s = .string ⟨((ST.take k).flatMap (outW A.hi)).toArray⟩ ∧ Q w9 wr) (fun _ i _ => A.n - (intOf i).toNat)
  case atStart => exact ⟨0, by omega, rfl, rfl, Q.refl _⟩
  case round =>
    obtain ⟨k, hk, rfl, rfl, hqr⟩ := hrel
    by_cases hlt : k < A.n
    · have hd : decide (k < A.n) = true := by simpa using hlt
      have hc := hqr.cell (HS9.out k (by rw [HL9.out]; exact hlt)).1
      have h68 := hqr.cell H68.out
      have hfl : ((ST.take k).flatMap (outW A.hi)).length ≤ 32 := by rw [flat_length, List.length_take]; omega
      have hsn : (ST.take (k + 1)).flatMap (outW A.hi) = (ST.take k).flatMap (outW A.hi) ++ bytesL A.hi (gW ST k).toNat 4 := by
        rw [List.take_succ_eq_append_getElem (by rw [HL9.out]; exact hlt), List.flatMap_append]
        simp [outW, gW, List.getD, HL9.out, hlt]
      have hwr : IntKind.u64.wrap ((gW ST k).toNat : Int) = ((gW ST k).toNat : Int) := by rw [IntWalk_u64]; have := (gW ST k).isLt; omega
      have h32 := (gW ST k).isLt
      generalize gW ST k = X at *
      generalize (ST.take k).flatMap (outW A.hi) = F at *
      have HSN := Lib.hid hsn
      have HQR := Lib.hid hqr
      have H6 := Lib.hid h68
      have H32 := Lib.hid h32
      clear hsn hqr h68 h32
      go_wp2_with fail
      have h64 : X.toNat < 18446744073709551616 := by have := H32.out; omega
      with_reducible refine (bytes4_any A.hi w.heap.size X.toNat _ H6.out h64).mono ?_
      rintro x w10 ⟨rfl, hq10⟩
      have hyl : (bytesL A.hi X.toNat 4).length ≤ 4 := by unfold bytesL; split <;> simp
      clear h64 hc hwr
      go_wp2_with fail
      go_roundw
      case rel => exact ⟨k + 1, by omega, by go_num, by rw [HSN.out], HQR.out.trans hq10⟩
      case measure => simp [intOf]; omega
    · obtain rfl : k = A.n := by omega
      have hd : decide (A.n < A.n) = false := by simp
      rw [List.take_of_length_le (by rw [HL9.out]; exact Nat.le_refl _), ← HSUM.out]
      have HQR := Lib.hid (HQ9.out.trans hqr)
      clear hqr
      go_wp2_with fail
      go_ret
      exact ⟨rfl, HQR.out⟩
end Go.Proofs.YtmmoenbmgcplkaaGreatDoor
set_option linter.unusedVariables false
namespace Go.Proofs.YtmmoenbmgcplkaaGreatDoor
open Go Go.RowKit
set_option maxRecDepth 100000 in
set_option maxHeartbeats 20000000 in
theorem mix256_any (sb cap : Nat) (s : St8) (b' : List UInt8) (w : World) (hb : b'.length = 64) (hs : StAt w sb s.list) :
    Calls Tryz.prog 102 #[.slice (some ⟨sb, 0, none⟩) 8 cap, .agg (arrB b')] w fun e w' => e = .returned (.tuple #[]) ∧ StAt w' sb (mix256L s b').list ∧ w.grownBy w' (some sb) := by
  go_enter Tryz.func102, Tryz.ntmps102
  iterate 9 go_step
  refine wp_seq_k fun K hK => ?_
  refine wp_region_lit ?_
  refine build_const rfl 125 (partsOf k256) (arrM k256) (some _) rfl (by kernel_rfl) k256_built ?_
  iterate 3 go_step
  refine wpList_store_row rfl 125 _ _ rfl (w.heap.size + 1) (arrM k256) ?_ ?_ 125 _ (heap_alloc2_new _ _ _) (by rw [arr_size]; exact info64) rfl (arr_all _) ?_
  · rfl
  · rfl
  obtain ⟨w3, hw3, hsz, hB, hK2, hq⟩ := mix_start w b' hb _
  rw [← hw3]
  clear hw3
  go_wp2_with fail
  clear hb
  have hw4 : ∃ w4, w4 = w3.alloc (.cells (arrM (List.replicate 64 0#32)) 125) ∧ w4.heap.size = w.heap.size + 3 ∧ BytAt w4 w.heap.size b' ∧ ArrAt w4 (w.heap.size + 1) k256 ∧ ArrAt w4 (w.heap.size + 2) (List.replicate 64 0#32) ∧ Q w w4 := by
    refine ⟨_, rfl, by simp [hsz], hB.alloc _, hK2.alloc _, ?_, hq.alloc _⟩
    have := ArrAt.new w3 (List.replicate 64 0#32) rfl
    rw [hsz] at this
    exact this
  obtain ⟨w4, hw4, hsz4, hB4, hK4, hZ4, hq4⟩ := hw4
  refine Eq.mp (congrArg _ hw4) ?_
  clear hw4 hq hK2 hB hsz
  go_loopw [27] (fun i wr => ∃ k : Nat, k ≤ 64 ∧ i = .int .i64 k ∧ BytAt wr w.heap.size b' ∧ ArrAt wr (w.heap.size + 1) k256 ∧ ArrAt wr (w.heap.size + 2) (wordsZ b' k) ∧ Q w wr) (fun i _ => 64 - (intOf i).toNat)
  case atStart => exact ⟨0, by omega, rfl, hB4, hK4, hZ4, hq4⟩
  case round =>
    obtain ⟨k, hk, rfl, hB, hK, hZ, hq⟩ := hrel
    by_cases hlt : k < 64
    · by_cases h16 : k < 16
      · have hc0 := hB.cell (4 * k) (by omega)
        have hc1 := hB.cell (4 * k + 1) (by omega)
        have hc2 := hB.cell (4 * k + 2) (by omega)
        have hc3 := hB.cell (4 * k + 3) (by omega)
        have hc := hZ.cell k hlt
        have hf := hZ.frozen k
        have hsl := slice64 wr w.heap.size 0 (4 * k) (4 * (k : Int)) (by omega) (by omega)
        rw [Nat.zero_add] at hsl
        have l1 := hB.lt
        have l2 := hZ.lt
        have HB := Lib.hid hB
        have HK := Lib.hid hK
        have HZ := Lib.hid hZ
        have HQ := Lib.hid hq
        have HS := Lib.hid hs
        clear hB hK hZ hq hs
        go_wp2_with fail
        go_big_region
        go_wp2_with fail
        go_roundw
        case rel =>
          refine ⟨k + 1, by omega, by go_num, BytAt.other HB.out (by omega) _ _, ArrAt.other HK.out (by omega) _ _, ?_, (Q.setNew HQ.out (by simp) _).drew⟩
          rw [be_bits, ← wordsZ_set b' k hlt]
          have e1 : be (gB b' (4 * k)) (gB b' (4 * k + 1)) (gB b' (4 * k + 2)) (gB b' (4 * k + 3)) = wordN b' (wordsN b' k) k := by unfold wordN; rw [if_pos h16]
          rw [e1]
          exact ArrAt.set HZ.out k _
        case measure => simp [intOf]; omega
      · obtain ⟨m, rfl⟩ : ∃ m, k = m + 16 := ⟨k - 16, by omega⟩
        have g0 := wordsZ_old b' (m + 16) m (by omega)
        have g1 := wordsZ_old b' (m + 16) (m + 1) (by omega)
        have g9 := wordsZ_old b' (m + 16) (m + 9) (by omega)
        have g14 := wordsZ_old b' (m + 16) (m + 14) (by omega)
        have hc0 := hZ.cell m (by omega)
        have hc1 := hZ.cell (m + 1) (by omega)
        have hc9 := hZ.cell (m + 9) (by omega)
        have hc14 := hZ.cell (m + 14) (by omega)
        have hc := hZ.cell (m + 16) hlt
        rw [g0] at hc0
        rw [g1] at hc1
        rw [g9] at hc9
        rw [g14] at hc14
        clear g0 g1 g9 g14
        have hf := hZ.frozen (m + 16)
        have l1 := hB.lt
        have l2 := hZ.lt
        have HB := Lib.hid hB
        have HK := Lib.hid hK
        have HZ := Lib.hid hZ
        have HQ := Lib.hid hq
        have HS := Lib.hid hs
        have i1 : (((m + 16 : Nat) : Int) - 15) = ((m + 1 : Nat) : Int) := by omega
        have i2 : (((m + 16 : Nat) : Int) - 2) = ((m + 14 : Nat) : Int) := by omega
        have i3 : (((m + 16 : Nat) : Int) - 16) = ((m : Nat) : Int) := by omega
        have i4 : (((m + 16 : Nat) : Int) - 7) = ((m + 9 : Nat) : Int) := by omega
        clear hB hK hZ hq hs h16
        have h16 : decide (((m + 16 : Nat) : Int) < 16) = false := by simp; omega
        have h64 : decide (((m + 16 : Nat) : Int) < 64) = true := by simp; omega
        have m1 := mixS_bits (gW (wordsN b' (m + 16)) (m + 1))
        have m2 := mixT_bits (gW (wordsN b' (m + 16)) (m + 14))
        go_wp2_with fail
        have q1 := fun m : QW wr => m.cell hc1
        refine wp_region_q (by kernel_rfl) (by kernel_rfl) ?_
        (repeat (go_big_quiet_step ((go_at_call 145; exact calls_qs (turnK _ _ _ (by decide) (by decide))))))
        refine wpQuiet_nil ?_
        rintro wa ⟨ma, hma⟩
        have hqa : Q wr wa := by rw [hma]; exact ma.le
        clear hma ma
        clear q1 m1
        replace hc0 := hqa.cell hc0
        replace hc9 := hqa.cell hc9
        replace hc14 := hqa.cell hc14
        have q14 := fun m : QW wa => m.cell hc14
        go_wp2_with fail
        refine wp_region_q (by kernel_rfl) (by kernel_rfl) ?_
        (repeat (go_big_quiet_step ((go_at_call 145; exact calls_qs (turnK _ _ _ (by decide) (by decide))))))
        refine wpQuiet_nil ?_
        rintro wb ⟨mb, hmb⟩
        have hqb : Q wa wb := by rw [hmb]; exact mb.le
        clear hmb mb
        clear q14 m2 hc14 hc1
        have hqc := hqa.trans hqb
        replace hc0 := hqb.cell hc0
        replace hc9 := hqb.cell hc9
        replace hc := hqc.cell hc
        replace hf := (HZ.out.q hqc).frozen (m + 16)
        replace l1 := (HB.out.q hqc).lt
        replace l2 := (HZ.out.q hqc).lt
        go_wp2_with fail
        go_big_region
        go_wp2_with fail
        go_roundw
        case rel =>
          refine ⟨m + 16 + 1, by omega, by go_num, BytAt.other (HB.out.q hqc) (by omega) _ _, ArrAt.other (HK.out.q hqc) (by omega) _ _, ?_, (Q.setNew (HQ.out.trans hqc) (by simp) _).drew⟩
          rw [← wordsZ_set b' (m + 16) hlt]
          have e1 : ((gW (wordsN b' (m + 16)) m).toNat + (mixS (gW (wordsN b' (m + 16)) (m + 1))).toNat + (gW (wordsN b' (m + 16)) (m + 9)).toNat + (mixT (gW (wordsN b' (m + 16)) (m + 14))).toNat : Int) % 4294967296 = ((wordN b' (wordsN b' (m + 16)) (m + 16)).toNat : Int) := by
            unfold wordN
            rw [if_neg (by omega), ad_val, ad_val, ad_val]
            rw [show m + 16 - 16 = m from by omega, show m + 16 - 15 = m + 1 from by omega, show m + 16 - 7 = m + 9 from by omega, show m + 16 - 2 = m + 14 from by omega]
            omega
          rw [e1]
          exact ArrAt.set (HZ.out.q hqc) (m + 16) _
        case measure => simp [intOf]; omega
    · obtain rfl : k = 64 := by omega
      rw [show ((64 : Nat) : Int) = 64 from rfl]
      rw [wordsZ_all] at hZ
      replace hs := hs.q hq
      obtain ⟨w5, hcp, hsz5, hV, hq5⟩ := copy_state wr sb cap s hs
      replace hs := hs.q hq5
      replace hK := hK.q hq5
      replace hZ := hZ.q hq5
      replace hq := hq.trans hq5
      have HS := Lib.hid hs
      have HK := Lib.hid hK
      have HZ := Lib.hid hZ
      have HQ := Lib.hid hq
      have HV := Lib.hid hV
      have v0 := hV.cell 0 (by decide)
      have v1 := hV.cell 1 (by decide)
      have v2 := hV.cell 2 (by decide)
      have v3 := hV.cell 3 (by decide)
      have v4 := hV.cell 4 (by decide)
      have v5 := hV.cell 5 (by decide)
      have v6 := hV.cell 6 (by decide)
      have v7 := hV.cell 7 (by decide)
      have lv := hV.lt
      clear hs hK hZ hq hV hB hlt hk
      go_wp2_with fail
      have y0 := fun m : QW w5 => m.cell v0
      have y1 := fun m : QW w5 => m.cell v1
      have y2 := fun m : QW w5 => m.cell v2
      have y3 := fun m : QW w5 => m.cell v3
      have y4 := fun m : QW w5 => m.cell v4
      have y5 := fun m : QW w5 => m.cell v5
      have y6 := fun m : QW w5 => m.cell v6
      have y7 := fun m : QW w5 => m.cell v7
      clear v0 v1 v2 v3 v4 v5 v6 v7 hcp
      refine wp_region_q (by kernel_rfl) (by kernel_rfl) ?_
      (repeat (go_big_quiet_step (fail)))
      refine wpQuiet_nil ?_
      rintro w6 ⟨m6, hm6⟩
      have hq6 : Q w5 w6 := by rw [hm6]; exact m6.le
      clear hm6 m6 y0 y1 y2 y3 y4 y5 y6 y7
      go_wp2_with fail
      have hQ6 := HQ.out.trans hq6
      have hK6 := HK.out.q hq6
      have hZ6 := HZ.out.q hq6
      have hS6 := HS.out.q hq6
      have hl6 := Nat.lt_of_lt_of_le lv hq6.size
      clear HQ HK HZ HS HV hq6 lv hsz5 hq5
      have HQ := Lib.hid hQ6
      have HK := Lib.hid hK6
      have HZ := Lib.hid hZ6
      have HS := Lib.hid hS6
      clear hQ6 hK6 hZ6 hS6
      go_loopw [12, 13, 14, 15, 16, 17, 18, 19, 132] (fun a b c d e f g h i wz => ∃ k : Nat, k ≤ 64 ∧ i = .int .i64 k ∧ a = .int .u32 ((roundsN (wordsN b' 64) s k).a.toNat : Int) ∧ b = .int .u32 ((roundsN (wordsN b' 64) s k).b.toNat : Int) ∧ c = .int .u32 ((roundsN (wordsN b' 64) s k).c.toNat : Int) ∧
        d = .int .u32 ((roundsN (wordsN b' 64) s k).d.toNat : Int) ∧ e = .int .u32 ((roundsN (wordsN b' 64) s k).e.toNat : Int) ∧ f = .int .u32 ((roundsN (wordsN b' 64) s k).f.toNat : Int) ∧ g = .int .u32 ((roundsN (wordsN b' 64) s k).g.toNat : Int) ∧ h = .int .u32 ((roundsN (wordsN b' 64) s k).h.toNat : Int) ∧ Q w6 wz) (fun _ _ _ _ _ _ _ _ i _ => 64 - (intOf i).toNat)
      case atStart => exact ⟨0, by omega, rfl, rfl, rfl, rfl, rfl, rfl, rfl, rfl, rfl, Q.refl _⟩
      case round =>
        obtain ⟨k, hk, rfl, rfl, rfl, rfl, rfl, rfl, rfl, rfl, rfl, hqz⟩ := hrel
        by_cases hlt : k < 64
        · have h64 : decide ((k : Int) < 64) = true := by simp; omega
          have hRs : roundsN (wordsN b' 64) s (k + 1) = round8 (wordsN b' 64) (roundsN (wordsN b' 64) s k) k := rfl
          generalize roundsN (wordsN b' 64) s k = R at *
          have HRS := Lib.hid hRs
          have ck := (HK.out.q hqz).cell k hlt
          have cw := (HZ.out.q hqz).cell k hlt
          generalize hKK : gW k256 k = KK at ck
          generalize hWW : gW (wordsN b' 64) k = WW at cw
          have HKK := Lib.hid hKK
          have HWW := Lib.hid hWW
          have HQZ := Lib.hid hqz
          have yk := fun m : QW wr => m.cell ck
          have yw := fun m : QW wr => m.cell cw
          clear hRs hKK hWW hqz ck cw
          have s1 : bits .xor .u32 (bits .xor .u32 ((tr 6 R.e).toNat : Int) ((tr 11 R.e).toNat : Int)) ((tr 25 R.e).toNat : Int) = ((xo (xo (rl 26 R.e) (rl 21 R.e)) (rl 7 R.e)).toNat : Int) := by rw [xor32, xor32]; rfl
          have s2 : bits .xor .u32 (bits .xor .u32 ((tr 2 R.a).toNat : Int) ((tr 13 R.a).toNat : Int)) ((tr 22 R.a).toNat : Int) = ((xo (xo (rl 30 R.a) (rl 19 R.a)) (rl 10 R.a)).toNat : Int) := by rw [xor32, xor32]; rfl
          have n1 : bits .xor .u32 IntKind.u32.max (R.e.toNat : Int) = ((no R.e).toNat : Int) := not32m _
          have n2 : bits .xor .u32 4294967295 (R.e.toNat : Int) = ((no R.e).toNat : Int) := not32 _
          have n3 : bits .xor .u32 (if IntKind.u32.signed = true then -1 else IntKind.u32.max) (R.e.toNat : Int) = ((no R.e).toNat : Int) := not32m _
          have a1 : bits .and .u32 (R.e.toNat : Int) (R.f.toNat : Int) = ((an R.e R.f).toNat : Int) := and32 _ _
          have a2 : bits .and .u32 ((no R.e).toNat : Int) (R.g.toNat : Int) = ((an (no R.e) R.g).toNat : Int) := and32 _ _
          have a3 : bits .xor .u32 ((an R.e R.f).toNat : Int) ((an (no R.e) R.g).toNat : Int) = ((xo (an R.e R.f) (an (no R.e) R.g)).toNat : Int) := xor32 _ _
          have a4 : bits .and .u32 (R.a.toNat : Int) (R.b.toNat : Int) = ((an R.a R.b).toNat : Int) := and32 _ _
          have a5 : bits .and .u32 (R.a.toNat : Int) (R.c.toNat : Int) = ((an R.a R.c).toNat : Int) := and32 _ _
          have a6 : bits .and .u32 (R.b.toNat : Int) (R.c.toNat : Int) = ((an R.b R.c).toNat : Int) := and32 _ _
          have a7 : bits .xor .u32 (bits .xor .u32 ((an R.a R.b).toNat : Int) ((an R.a R.c).toNat : Int)) ((an R.b R.c).toNat : Int) = ((xo (xo (an R.a R.b) (an R.a R.c)) (an R.b R.c)).toNat : Int) := by rw [xor32, xor32]; rfl
          go_wp2_with (go_at_call 145; refine (turnK _ _ _ (by decide) (by decide)).mono ?_; rintro e w' ⟨rfl, rfl⟩)
          refine wp_region_q (by kernel_rfl) (by kernel_rfl) ?_
          (repeat (go_big_quiet_step (fail)))
          refine wpQuiet_nil ?_
          rintro w7 ⟨m7, hm7⟩
          have hq7 : Q wr w7 := by rw [hm7]; exact m7.le
          clear hm7 m7 yk yw a1 a2 a3 s1 n1 n2 n3
          go_wp2_with (go_at_call 145; refine (turnK _ _ _ (by decide) (by decide)).mono ?_; rintro e w' ⟨rfl, rfl⟩)
          clear a4 a5 a6 a7 s2 h64
          go_roundw
          case rel =>
            refine ⟨k + 1, by omega, by go_num, ?_, ?_, ?_, ?_, ?_, ?_, ?_, ?_, HQZ.out.trans hq7⟩
            · rw [HRS.out, round_a _ _ _ _ _ HKK.out HWW.out]
            · rw [HRS.out]; rfl
            · rw [HRS.out]; rfl
            · rw [HRS.out]; rfl
            · rw [HRS.out, round_e _ _ _ _ _ HKK.out HWW.out]
            · rw [HRS.out]; rfl
            · rw [HRS.out]; rfl
            · rw [HRS.out]; rfl
          case measure => simp [intOf]; omega
        · obtain rfl : k = 64 := by omega
          rw [show ((64 : Nat) : Int) = 64 from rfl]
          have hR : mix256L s b' = add8 s (roundsN (wordsN b' 64) s 64) := rfl
          generalize roundsN (wordsN b' 64) s 64 = R at *
          have HR := Lib.hid hR
          have HQZ := Lib.hid (HQ.out.trans hqz)
          have HSZ := Lib.hid (HS.out.q hqz)
          clear hR hqz hlt hk HQ HS HK HZ hl6
          go_wp2_with fail
          go_loopw [211] (fun i wz => ∃ k : Nat, k ≤ 8 ∧ i = .int .i64 k ∧ StAt wz sb (addP s.list R.list k) ∧ w.grownBy wz (some sb)) (fun i _ => 8 - (intOf i).toNat)
          case atStart => exact ⟨0, by omega, rfl, HSZ.out, HQZ.out.gb _⟩
          case round =>
            obtain ⟨k, hk, rfl, hS, hg⟩ := hrel
            by_cases hlt : k < 8
            · have h8 : decide ((k : Int) < 8) = true := by simp; omega
              have hi := index8 R k hlt
              have hc := (hS k (by rw [addP_length]; exact hlt)).1
              have hf := (hS k (by rw [addP_length]; exact hlt)).2
              rw [addP_old _ _ _ _ (Nat.le_refl k)] at hc
              have HS := Lib.hid hS
              have HG := Lib.hid hg
              clear hS hg
              go_wp2_with fail
              go_roundw
              case rel =>
                refine ⟨k + 1, by omega, by go_num, ?_, gb_set HG.out _ _⟩
                have e1 := StAt.set HS.out k (ad (gW s.list k) (gW R.list k)) (by rw [addP_length]; exact hlt)
                rw [ad_val] at e1
                exact e1
              case measure => simp [intOf]; omega
            · obtain rfl : k = 8 := by omega
              rw [addP_all, ← HR.out] at hS
              have HS := Lib.hid hS
              have HG := Lib.hid hg
              clear hS hg
              go_wp2_with fail
              go_end0
              exact ⟨rfl, HS.out, HG.out⟩
end Go.Proofs.YtmmoenbmgcplkaaGreatDoor
set_option linter.unusedVariables false
namespace Go.Proofs.YtmmoenbmgcplkaaGreatDoor
structure St4 where
  (a b c d : B32)
def f5 (i : Nat) (b c d : B32) : B32 :=
  if i / 16 = 0 then xo d (an b (xo c d)) else if i / 16 = 1 then xo c (an d (xo b c)) else if i / 16 = 2 then xo (xo b c) d else xo c (oo b (no d))
end Go.Proofs.YtmmoenbmgcplkaaGreatDoor
set_option linter.unusedVariables false
namespace Go.Proofs.YtmmoenbmgcplkaaGreatDoor
open Go Go.RowKit
def St4.list (s : St4) : List B32 := [s.a, s.b, s.c, s.d]
theorem StAt.lt4 {w : World} {B : Nat} {s : St4} (h : StAt w B s.list) : B < w.heap.size := lt_of_cell (h 0 (by simp [St4.list])).1
theorem StAt.q4 {w w' : World} {B : Nat} {s : St4} (h : StAt w B s.list) (hq : Q w w') : StAt w' B s.list :=
  fun i hi => ⟨hq.cell (h i hi).1, (frozen_q hq h.lt4).trans (h i hi).2⟩
end Go.Proofs.YtmmoenbmgcplkaaGreatDoor
set_option linter.unusedVariables false
namespace Go.Proofs.YtmmoenbmgcplkaaGreatDoor
open Go Go.RowKit
def of8 (l : List B32) : St8 := ⟨gW l 0, gW l 1, gW l 2, gW l 3, gW l 4, gW l 5, gW l 6, gW l 7⟩
theorem of8_list (l : List B32) (h : l.length = 8) : (of8 l).list = l := by
  match l, h with
  | [a, b, c, d, e, f, g, i], _ => rfl
def alg256 : Alg where
  n := 8
  fn := 102
  hi := true
  start := start256.list
  mix := fun s b => (mix256L (of8 s) b).list
  n0 := by decide
  n8 := by decide
  len0 := rfl
  len := fun _ _ _ => rfl
  enters := fun args w => by kernel_rfl
  call := fun sb cap s b w hs hb hst => by
    have h := mix256_any sb cap (of8 s) b w hb (by rw [of8_list s hs]; exact hst)
    exact h
def sha (l : List UInt8) : List UInt8 := sumA alg256 l
theorem st_row {w : World} {g : Nat} {l : List B32} {e : TypeId} (h : w.heap[g]? = some (.cells (arrM l) e (0, 0))) : StAt w g l := by
  intro i hi
  refine ⟨?_, frozen_of_row w g i _ _ h⟩
  rw [cell_of_row _ _ _ _ _ _ h]
  simp [arrM, u32V, gW, List.getD, hi]
def NewPost (A : Alg) (cap : Nat) (w : World) (e : Ending) (w' : World) : Prop :=
  ∃ hb sb, e = .returned (.pointer (some ⟨hb, 0, none⟩)) ∧ w.heap.size ≤ hb ∧ w.heap.size ≤ sb ∧ ToldAt w' A hb sb cap [] ∧ Q w w'
set_option maxRecDepth 100000 in
set_option maxHeartbeats 4000000 in
theorem new256_any (w : World) : Calls Tryz.prog 62 #[] w (NewPost alg256 8 w) := by
  go_enter Tryz.func62, Tryz.ntmps62
  go_wp2_with fail
  go_ret
  refine ⟨w.heap.size + 1, w.heap.size, rfl, by omega, by omega, ?_, ((Q.refl w).alloc _).alloc _⟩
  refine ⟨⟨List.replicate 64 0, ⟨?_, by simp⟩, rfl⟩, ?_, by omega⟩
  · rw [heap_alloc2_new]
    exact congrArg (fun x => some (Obj.cells x 148 (0, 0))) (by kernel_rfl)
  · exact st_row (l := start256.list) (heap_alloc2_old w (.cells (arrM start256.list) 123) _)
end Go.Proofs.YtmmoenbmgcplkaaGreatDoor
set_option linter.unusedVariables false
namespace Go.Proofs.YtmmoenbmgcplkaaGreatDoor
open Go Go.RowKit
set_option maxHeartbeats 400000 in
theorem Sum256_any (l : List UInt8) (w : World) (hl : l.length ≤ 9223372036854775807) :
    Calls Tryz.prog 29 #[.string ⟨l.toArray⟩] w fun e w' => e = .returned (.string ⟨(sha l).toArray⟩) ∧ Q w w' := by
  go_enter Tryz.func29, Tryz.ntmps29
  go_wp2_with fail
  with_reducible refine (new256_any _).mono ?_
  rintro e w1 ⟨hb, sb, rfl, h1, h2, hT, hq⟩
  have HT := Lib.hid hT
  have HQ := Lib.hid hq
  clear hT hq
  go_wp2_with fail
  with_reducible refine (write_any alg256 hb sb 8 [] l _ HT.out hl).mono ?_
  rintro e w2 ⟨rfl, hT, hg⟩
  have HT := Lib.hid hT
  have HQ := Lib.hid (hg.toQ HQ.out (by intro k hk; simp at hk; omega))
  clear hT hg
  go_wp2_with fail
  with_reducible refine (sum_any alg256 hb sb 8 _ _ HT.out).mono ?_
  rintro e w3 ⟨rfl, hq⟩
  go_wp2_with fail
  go_ret
  exact ⟨rfl, HQ.out.trans hq⟩
end Go.Proofs.YtmmoenbmgcplkaaGreatDoor
set_option linter.unusedVariables false
namespace Go.Proofs.YtmmoenbmgcplkaaGreatDoor
open Go Go.RowKit
theorem wrap8_lt (x : UInt8) : IntKind.u8.wrap (x.toNat : Int) = (x.toNat : Int) := by
  rw [IntKind.wrap_u8]; have := x.toNat_lt; omega
theorem ofInt8 (x : UInt8) : BitVec.ofInt 8 (x.toNat : Int) = x.toBitVec := by
  rw [BitVec.ofInt_natCast]; exact BitVec.eq_of_toNat_eq (by simp)
def xb (x y : UInt8) : UInt8 := x ^^^ y
theorem xor8 (x y : UInt8) : bits .xor .u8 (x.toNat : Int) (y.toNat : Int) = ((xb x y).toNat : Int) := by
  show IntKind.u8.wrap ((BitVec.ofInt 8 _ ^^^ BitVec.ofInt 8 _).toNat : Int) = _
  rw [ofInt8, ofInt8, ← UInt8.toBitVec_xor]
  exact wrap8_lt _
def xo8 (x : UInt8) (b : List UInt8) : List UInt8 := b.map fun y => xb y x
theorem xo8_length (x : UInt8) (b : List UInt8) : (xo8 x b).length = b.length := by simp [xo8]
theorem BytAt.set {w : World} {g : Nat} {b : List UInt8} (h : BytAt w g b) (i : Nat) (x : UInt8) : BytAt (w.setCell ⟨g, i, none⟩ (.int .u8 (x.toNat : Int))) g (b.set i x) := by
  refine ⟨?_, by rw [List.length_set]; exact h.2⟩
  rw [heap_setCell_same w g i _ _ _ h.1]
  congr 2
  unfold arrB
  rw [← Array.toList_inj]
  simp [u8V, List.map_set]
theorem BytAt.frozen {w : World} {g : Nat} {b : List UInt8} (h : BytAt w g b) (i : Nat) : w.frozen? ⟨g, i, none⟩ = false := frozen_of_row w g i _ _ h.1
theorem arrB_all (b : List UInt8) : (arrB b).all (·.oneCell') = true := by
  rw [Array.all_eq_true_iff_forall_mem]
  intro v hv
  have : v ∈ b.map u8V := by simpa [arrB] using hv
  obtain ⟨x, _, rfl⟩ := List.mem_map.1 this
  rfl
theorem arrB_size (b : List UInt8) : (arrB b).size = b.length := by simp [arrB]
theorem infoB64 : (Tryz.prog.info? 130).map (·.size) = some 64 := by kernel_rfl
theorem conv_64 (w : World) (g : Nat) (b : List UInt8) (cap : Nat) (h : BytAt w g b) : (convert 88 9 (.slice (some ⟨g, 0, none⟩) 64 cap)).run Tryz.prog w = .ok (.string ⟨b.toArray⟩) w := by
  rw [← h.2]
  refine run_convert_bytes_back (P := Tryz.prog) w 88 9 5 ⟨g, 0, none⟩ cap b Tryz.underlying88 Tryz.underlying5 Tryz.underlying9 ?_
  intro i hi
  rw [add_off, Nat.zero_add, h.cell i (by rw [h.2] at hi; exact hi)]
  simp [gB, List.getD, hi]
theorem pad_start (w : World) (b : List UInt8) (hb : b.length = 64) (cs : Array Value) :
    ∃ w3, w3 = (w.alloc (.cells cs 130)).setRow w.heap.size (arrB b) ∧ BytAt w3 w.heap.size b ∧ Q w w3 := by
  refine ⟨_, rfl, ⟨?_, hb⟩, Q.setRow ((Q.refl w).alloc _) (Nat.le_refl _) _⟩
  simp only [World.setRow, Array.getElem?_modify, if_true]
  rw [heap_alloc_new]
  rfl
theorem xo_step (x : UInt8) (b : List UInt8) (k : Nat) (h : k < b.length) : ((xo8 x b).take k ++ b.drop k).set k (xb (gB b k) x) = (xo8 x b).take (k + 1) ++ b.drop (k + 1) := by
  have hk : ((xo8 x b).take k).length = k := by rw [List.length_take, xo8_length]; omega
  rw [List.set_append, if_neg (by omega), hk, Nat.sub_self, List.drop_eq_getElem_cons h, List.set_cons_zero]
  rw [List.take_succ_eq_append_getElem (by rw [xo8_length]; exact h)]
  simp [xo8, gB, List.getD, h]
theorem xo_at (x : UInt8) (b : List UInt8) (k : Nat) (h : k < b.length) : gB ((xo8 x b).take k ++ b.drop k) k = gB b k := by
  have hk : ((xo8 x b).take k).length = k := by rw [List.length_take, xo8_length]; omega
  unfold gB
  simp only [List.getD]
  rw [List.getElem?_append_right (by omega), hk, Nat.sub_self, List.getElem?_drop]
  rfl
set_option maxRecDepth 100000 in
set_option maxHeartbeats 4000000 in
theorem pad_any (x : UInt8) (n : Int) (hn : n = (x.toNat : Int)) (g : Nat) (b : List UInt8) (w : World) (h : BytAt w g b) :
    Calls Tryz.prog 89 #[.int .u8 n, .pointer (some ⟨g, 0, none⟩)] w fun e w' => e = .returned (.string ⟨(xo8 x b).toArray⟩) ∧ Q w w' := by
  subst hn
  have HB := Lib.hid h
  clear h
  go_enter Tryz.func89, Tryz.ntmps89
  iterate 11 go_step
  refine wpList_load_row rfl 130 (.tmp 1) rfl g rfl _ _ _ _ HB.out.1 Tryz.underlying130 rfl (by rw [arrB_size, HB.out.2]; exact infoB64) ?_
  iterate 3 go_step
  refine wpList_store_row rfl 130 (.tmp 4) (.tmp 6) rfl w.heap.size (arrB b) rfl rfl 130 _ (heap_alloc_new w _) (by rw [arrB_size, HB.out.2]; exact infoB64) (by rw [arrB_size, HB.out.2]; rfl) (arrB_all b) ?_
  obtain ⟨w3, hw3, hB3, hq3⟩ := pad_start w b HB.out.2 _
  rw [← hw3]
  clear hw3
  have HL := Lib.hid HB.out.2
  have HB3 := Lib.hid hB3
  have HQ3 := Lib.hid hq3
  clear hB3 hq3
  go_wp2_with fail
  go_loopw [7] (fun i wr => ∃ k : Nat, k ≤ 64 ∧ i = .int .i64 k ∧ BytAt wr w.heap.size ((xo8 x b).take k ++ b.drop k) ∧ Q w wr) (fun i _ => 64 - (intOf i).toNat)
  case atStart => exact ⟨0, by omega, rfl, HB3.out, HQ3.out⟩
  case round =>
    obtain ⟨k, hk, rfl, hB, hq⟩ := hrel
    by_cases hlt : k < 64
    · have hd : decide ((k : Int) < 64) = true := by simp; omega
      have hc := hB.cell k hlt
      rw [xo_at x b k (by rw [HL.out]; exact hlt)] at hc
      have hf := hB.frozen k
      have hx := xor8 (gB b k) x
      have HBB := Lib.hid hB
      have HQ := Lib.hid hq
      clear hB hq
      go_wp2_with fail
      go_roundw
      case rel =>
        refine ⟨k + 1, by omega, by go_num, ?_, Q.setNew HQ.out (Nat.le_refl _) _⟩
        rw [← xo_step x b k (by rw [HL.out]; exact hlt)]
        exact BytAt.set HBB.out k _
      case measure => simp [intOf]; omega
    · obtain rfl : k = 64 := by omega
      have hd : decide (((64 : Nat) : Int) < 64) = false := by simp
      rw [List.take_of_length_le (by rw [xo8_length, HL.out]; exact Nat.le_refl _), List.drop_of_length_le (by rw [HL.out]; exact Nat.le_refl _), List.append_nil] at hB
      have hcv := conv_64 wr w.heap.size (xo8 x b) 64 hB
      have HQ := Lib.hid hq
      clear hq hB
      go_wp2_with fail
      go_ret
      exact ⟨rfl, HQ.out⟩
def keyB (k : List UInt8) : List UInt8 := k ++ List.replicate (64 - k.length) 0
def keyOf (key : List UInt8) : List UInt8 := if 64 < key.length then sha key else key
def mac (key s : List UInt8) : List UInt8 := sha (xo8 0x5c (keyB (keyOf key)) ++ sha (xo8 0x36 (keyB (keyOf key)) ++ s))
theorem sha_length (l : List UInt8) : (sha l).length = 32 := sumA_length _ _
theorem keyB_length (k : List UInt8) (h : k.length ≤ 64) : (keyB k).length = 64 := by unfold keyB; simp; omega
theorem key_row' (n : Nat) (k : List UInt8) : ((arrB (List.replicate n 0)).toList.take 0 ++ Lib.byteCells k ++ (arrB (List.replicate n 0)).toList.drop (0 + k.length)).toArray = arrB (k ++ List.replicate (n - k.length) 0) := by
  unfold arrB Lib.byteCells
  rw [← Array.toList_inj]
  simp [u8V]
theorem key_row (k : List UInt8) : ((arrB (List.replicate 64 0)).toList.take 0 ++ Lib.byteCells k ++ (arrB (List.replicate 64 0)).toList.drop (0 + k.length)).toArray = arrB (keyB k) := key_row' 64 k
theorem mac_start (w w1 : World) (g : Nat) (k : List UInt8) (hk : k.length ≤ 64) (hg : w.heap.size ≤ g) (h : BytAt w1 g (List.replicate 64 0)) (hq : Q w w1) :
    ∃ w3, w3 = w1.setRow g ((arrB (List.replicate 64 0)).toList.take 0 ++ Lib.byteCells k ++ (arrB (List.replicate 64 0)).toList.drop (0 + k.length)).toArray ∧ BytAt w3 g (keyB k) ∧ Q w w3 := by
  refine ⟨_, rfl, ⟨?_, keyB_length k hk⟩, Q.setRow hq hg _⟩
  simp only [World.setRow, Array.getElem?_modify, if_true]
  rw [h.1, key_row]
  rfl
theorem xor8_length (x : UInt8) (k : List UInt8) (h : k.length ≤ 64) : (xo8 x (keyB k)).length = 64 := by rw [xo8_length, keyB_length k h]
theorem slice64a (w : World) (g : Nat) : (Instr.sliceAt 130 (.pointer (some ⟨g, 0, none⟩)) none none none).run Tryz.prog w = .ok (.slice (some ⟨g, 0, none⟩) 64 64) w := by
  kernel_rfl
set_option maxRecDepth 100000 in
set_option maxHeartbeats 4000000 in
theorem MAC_tail (k key s : List UInt8) (w : World) (hk : k.length ≤ 64) (hs : s.length ≤ 9223372036854775000) (hkey : key.length ≤ 9223372036854775000) (hkk : keyOf key = k) :
    Calls Tryz.prog 46 #[.string ⟨key.toArray⟩, .string ⟨s.toArray⟩] w fun e w' => e = .returned (.string ⟨(mac key s).toArray⟩) ∧ Q w w' := by
  have hm : mac key s = sha (xo8 0x5c (keyB k) ++ sha (xo8 0x36 (keyB k) ++ s)) := by unfold mac; rw [hkk]
  have HM := Lib.hid hm
  clear hm
  go_enter Tryz.func46, Tryz.ntmps46
  go_upto_region 2 with (fail)
  obtain ⟨w1, hw1, hB1, hq1⟩ : ∃ w1, w1 = w.alloc (.cells (arrB (List.replicate 64 0)) 130) ∧ BytAt w1 w.heap.size (List.replicate 64 0) ∧ Q w w1 := ⟨_, rfl, ⟨heap_alloc_new w _, by simp⟩, (Q.refl w).alloc _⟩
  refine Eq.mp (congrArg _ hw1) ?_
  clear hw1
  have HB := Lib.hid hB1
  have HQ := Lib.hid hq1
  clear hB1 hq1
  have HK := Lib.hid hkk
  clear hkk
  go_upto_if 9 with (fail)
  go_cut [0] (fun s0 wx => s0 = .string ⟨k.toArray⟩ ∧ BytAt wx w.heap.size (List.replicate 64 0) ∧ Q w wx)
  case first =>
    by_cases hb : 64 < key.length
    · have hd : decide ((64 : Int) < (key.length : Int)) = true := by simp; omega
      have hd2 : decide (64 < key.length) = true := by simp; omega
      have hkk : sha key = k := by rw [← HK.out]; unfold keyOf; rw [if_pos hb]
      have HK2 := Lib.hid hkk
      clear hkk
      go_wp2_with fail
      with_reducible refine (Sum256_any key _ (by omega)).mono ?_
      rintro e w2 ⟨rfl, hq2⟩
      go_wp2_with fail
      go_meet
      case rel => exact ⟨by rw [HK2.out], ⟨hq2.block HB.out.1, HB.out.2⟩, HQ.out.trans hq2⟩
    · have hd : decide ((64 : Int) < (key.length : Int)) = false := by simp; omega
      have hd2 : decide (64 < key.length) = false := by simp; omega
      have hkk : key = k := by rw [← HK.out]; unfold keyOf; rw [if_neg hb]
      have HK2 := Lib.hid hkk
      clear hkk
      go_wp2_with fail
      go_meet
      case rel => exact ⟨by rw [HK2.out], HB.out, HQ.out⟩
  case rest =>
    obtain ⟨rfl, hBB, hQQ⟩ := hcut
    have HBB := Lib.hid hBB
    have HQQ := Lib.hid hQQ
    clear hBB hQQ HB HQ
    have hsl := fun w' : World => slice64a w' w.heap.size
    go_upto_region 4 with (fail)
    iterate 7 go_step
    refine wpList_copy_str rfl (.tmp 12) (.tmp 13) 88 9 5 rfl Tryz.underlying88 info5 w.heap.size 0 64 64 rfl k rfl _ 130 HBB.out.1 k (List.take_of_length_le hk) (by rw [arrB_size, List.length_replicate]; omega) ?_
    clear hsl
    obtain ⟨w3, hw3, hB3, hq3⟩ := mac_start w wc w.heap.size k hk (Nat.le_refl _) HBB.out HQQ.out
    rw [← hw3]
    clear hw3
    have hl5 := xor8_length 0x5c k hk
    have hl3 := xor8_length 0x36 k hk
    have HB3 := Lib.hid hB3
    have HQ3 := Lib.hid hq3
    have HL5 := Lib.hid hl5
    have HL3 := Lib.hid hl3
    clear hB3 hq3 HBB HQQ hl5 hl3
    go_wp2_with fail
    with_reducible refine (pad_any 0x5c 92 rfl w.heap.size (keyB k) _ HB3.out).mono ?_
    rintro e w4 ⟨rfl, hq4⟩
    generalize hX : xo8 0x5c (keyB k) = X at *
    have hXl : X.length ≤ 64 := by rw [HL5.out]; omega
    have HX := Lib.hid hX
    have HB4 := Lib.hid (show BytAt w4 w.heap.size (keyB k) from ⟨hq4.block HB3.out.1, HB3.out.2⟩)
    have HQ4 := Lib.hid (HQ3.out.trans hq4)
    clear hX hq4 HB3 HQ3
    go_wp2_with fail
    with_reducible refine (pad_any 0x36 54 rfl w.heap.size (keyB k) _ HB4.out).mono ?_
    rintro e w5 ⟨rfl, hq5⟩
    generalize hY : xo8 0x36 (keyB k) = Y at *
    have hYl : Y.length ≤ 64 := by rw [HL3.out]; omega
    have HY := Lib.hid hY
    have HQ5 := Lib.hid (HQ4.out.trans hq5)
    clear hY hq5 HB4 HQ4
    go_wp2_with fail
    with_reducible refine (Sum256_any (Y ++ s) _ (by simp; omega)).mono ?_
    rintro e w6 ⟨rfl, hq6⟩
    generalize hZ : sha (Y ++ s) = Z at *
    have hZl : Z.length ≤ 32 := by rw [← hZ, sha_length]; omega
    have HZ := Lib.hid hZ
    have HQ6 := Lib.hid (HQ5.out.trans hq6)
    clear hZ hq6 HQ5
    go_wp2_with fail
    with_reducible refine (Sum256_any (X ++ Z) _ (by simp; omega)).mono ?_
    rintro e w7 ⟨rfl, hq7⟩
    go_wp2_with fail
    go_ret
    exact ⟨by rw [HM.out]; rfl, HQ6.out.trans hq7⟩
theorem MAC_any (key s : List UInt8) (w : World) (hs : s.length ≤ 140737488355328) (hkey : key.length ≤ 140737488355328) :
    Calls Tryz.prog 46 #[.string ⟨key.toArray⟩, .string ⟨s.toArray⟩] w fun e w' => e = .returned (.string ⟨(mac key s).toArray⟩) ∧ Q w w' :=
  MAC_tail (keyOf key) key s w (by unfold keyOf; split; · rw [sha_length]; omega
                                   · omega) (by omega) (by omega) rfl
end Go.Proofs.YtmmoenbmgcplkaaGreatDoor
set_option linter.unusedVariables false
namespace Go.Proofs.YtmmoenbmgcplkaaGreatDoor
open Go Go.RowKit
def hexd : List UInt8 := [48, 49, 50, 51, 52, 53, 54, 55, 56, 57, 97, 98, 99, 100, 101, 102]
def hexC (c : UInt8) : List UInt8 := [gB hexd (c.toNat / 16), gB hexd (c.toNat % 16)]
def hexL (l : List UInt8) : List UInt8 := l.flatMap hexC
theorem hexL_length (l : List UInt8) : (hexL l).length = 2 * l.length := by
  induction l with
  | nil => rfl
  | cons a t ih => simp only [hexL, List.flatMap_cons, List.length_append] at *; rw [ih]; simp only [hexC, List.length_cons, List.length_nil]; omega
theorem hexL_snoc (l : List UInt8) (k : Nat) (h : k < l.length) : hexL (l.take (k + 1)) = hexL (l.take k) ++ hexC (gB l k) := by
  rw [List.take_succ_eq_append_getElem h]
  unfold hexL
  rw [List.flatMap_append]
  simp [gB, List.getD, h]
theorem and15h : ∀ c : Nat, c < 256 → bits .and .u8 (c : Int) 15 = ((c % 16 : Nat) : Int) := by decide +kernel
set_option maxRecDepth 100000 in
set_option maxHeartbeats 4000000 in
theorem Hex_any (l : List UInt8) (w : World) (hl : l.length ≤ 140737488355328) :
    Calls Tryz.prog 28 #[.string ⟨l.toArray⟩] w fun e w' => e = .returned (.string ⟨(hexL l).toArray⟩) ∧ Q w w' := by
  obtain ⟨w1, hmk, hO, hQ⟩ := make_b (2 * l.length) w (by omega)
  obtain ⟨v2, w2, hcv, hO2, hQ2, cap2, hv2⟩ := bytes_of l w1 (by omega)
  rw [hv2] at hcv hO2
  rw [show ((2 * l.length : Nat) : Int) = 2 * (l.length : Int) from by omega] at hmk
  have HO := Lib.hid (hO.q hQ2)
  have HQ := Lib.hid (hQ.trans hQ2)
  have hb2 : w.heap.size < w1.heap.size := by
    rcases hO with ⟨h, _⟩ | ⟨g, cap, cur, fz, hv, hbg, hg, _⟩
    · cases h
    · cases hv; exact lt_of_heap hg
  have HO2 := Lib.hid hO2
  clear hO hQ hO2 hQ2 hv2
  go_enter Tryz.func28, Tryz.ntmps28
  go_wp2_with fail
  clear hmk hcv
  go_loopw [3, 13] (fun v i wr => ∃ k K : Nat, k ≤ l.length ∧ K = 2 * k ∧ i = .int .i64 k ∧ v = .slice (some ⟨w.heap.size, 0, none⟩) K (2 * l.length) ∧ OwnB w wr (.slice (some ⟨w.heap.size, 0, none⟩) K (2 * l.length)) (hexL (l.take k)) ∧ Q w wr ∧ OwnB w1 wr (.slice (some ⟨w1.heap.size, 0, none⟩) l.length cap2) l) (fun _ i _ => l.length - (intOf i).toNat)
  case atStart => exact ⟨0, 0, by omega, rfl, rfl, rfl, HO.out, HQ.out, HO2.out⟩
  case round =>
    obtain ⟨k, K, hk, hK, rfl, rfl, hO, hq, hO3⟩ := hrel
    by_cases hlt : k < l.length
    · have hd : decide (k < l.length) = true := by simpa using hlt
      obtain ⟨g, cc, hv, _, _, _, hcell⟩ := hO3.pos (by omega)
      cases hv
      have hc := (hcell k hlt).1
      have hlk : (hexL (l.take k)).length = K := by rw [hexL_length, List.length_take, hK]; omega
      have hroom : K + 2 ≤ 2 * l.length := by omega
      have HSN := Lib.hid (hexL_snoc l k hlt)
      generalize hexL (l.take k) = F at *
      have hcn := (gB l k).toNat_lt
      generalize gB l k = c at *
      have hC : hexC c = [gB hexd (c.toNat / 16), gB hexd (c.toNat % 16)] := rfl
      have a1 := and15h c.toNat hcn
      have i1 : (c.toNat : Int) / 16 < 16 := by omega
      have i2 : (0 : Int) ≤ (c.toNat : Int) / 16 := by omega
      have i3 : (c.toNat : Int) % 16 < 16 := by omega
      have i4 : (0 : Int) ≤ (c.toNat : Int) % 16 := by omega
      have n1 : ((c.toNat : Int) / 16).toNat = c.toNat / 16 := by omega
      have n2 : ((c.toNat : Int) % 16).toNat = c.toNat % 16 := by omega
      have hsz := lt_of_cell hc
      have hszd : Hid (w.heap.size < wr.drew.heap.size) := Lib.hid (by show w.heap.size < wr.heap.size; simp at hsz; omega)
      have HSZ := Lib.hid hsz
      have HC := Lib.hid hC
      have HKK := Lib.hid hK
      have HO := Lib.hid (hO.q (Q.refl wr).drew)
      have HQ := Lib.hid hq.drew
      have HO3 := Lib.hid (hO3.q (Q.refl wr).drew)
      have HLK := Lib.hid hlk
      clear hO hq hO3 hcell hC hlk hK hsz
      go_upto_region 5 with (fail)
      clear hc
      go_region_held3 (fun w' => True) (trivial) ((refine step_append_room_b (by rfl) (.tmp 17) (.tmp 24) (by rfl) w wr.drew w.heap.size K (2 * l.length) F HLK.out (by rfl) HO.out hszd.out [gB hexd (c.toNat / 16), gB hexd (c.toNat % 16)] 2 rfl (by rfl) hroom ?_; intro w9 hown2 hg2))
      all_goals
        have HO9 := Lib.hid hown2
        have HG9 := Lib.hid hg2
        clear hown2 hg2 a1 i1 i2 i3 i4 n1 n2
        go_wp2_with fail
        go_roundw
        case rel =>
          refine ⟨k + 1, K + 2, by omega, by have := HKK.out; omega, by go_num, rfl, by rw [HSN.out, HC.out]; exact HO9.out, ?_, OwnB.g HO3.out HG9.out ?_⟩
          · exact gb_q_own (v := .slice (some ⟨w.heap.size, 0, none⟩) K (2 * l.length)) HG9.out HQ.out (by intro x hx; simp [Value.ownBlock] at hx; omega)
          · intro x hx e
            simp [Value.ownBlock] at hx e
            omega
        case measure => simp [intOf]; omega
    · obtain rfl : k = l.length := by omega
      have hd : decide (l.length < l.length) = false := by simp
      rw [List.take_length] at hO
      have hcv := conv_b hO
      have HQ := Lib.hid hq
      clear hO hq hO3 hK
      go_wp2_with fail
      go_ret
      exact ⟨rfl, HQ.out⟩
end Go.Proofs.YtmmoenbmgcplkaaGreatDoor
