/- digest.Base64. -/
import Derived.Test.YteadblkkbbhpjaaCod
import Derived.Test.YteadblkkbbhpjaaPure
import Derived.Test.YteadblkkbbhpjaaHsA
set_option linter.unusedVariables false
namespace Go.Proofs.Yteadblkkbbhpjaa
open Go Go.RowKit
def b64d : List UInt8 := [65, 66, 67, 68, 69, 70, 71, 72, 73, 74, 75, 76, 77, 78, 79, 80, 81, 82, 83, 84, 85, 86, 87, 88, 89, 90, 97, 98, 99, 100, 101, 102, 103, 104, 105, 106, 107, 108, 109, 110, 111, 112, 113, 114, 115, 116, 117, 118, 119, 120, 121, 122, 48, 49, 50, 51, 52, 53, 54, 55, 56, 57, 43, 47]
def w24 (r : List UInt8) : Nat := (gB r 0).toNat * 65536 + (gB r 1).toNat * 256 + (gB r 2).toNat
def four0 (n : Nat) : List UInt8 := [gB b64d (n / 262144), gB b64d (n / 4096 % 64), gB b64d (n / 64 % 64), gB b64d (n % 64)]
/-- Four signs of up to three bytes. -/
def fourL (r : List UInt8) : List UInt8 := (four0 (w24 r)).take ((r.take 3).length + 1) ++ List.replicate (3 - (r.take 3).length) 61
def b64L (l : List UInt8) (n : Nat) : List UInt8 := (List.range n).flatMap fun j => fourL (l.drop (3 * j))
def base64L (l : List UInt8) : List UInt8 := b64L l ((l.length + 2) / 3)
theorem fourL_length (r : List UInt8) : (fourL r).length = 4 := by
  unfold fourL four0
  simp only [List.length_append, List.length_take, List.length_replicate, List.length_cons, List.length_nil]
  omega
theorem b64L_length (l : List UInt8) (n : Nat) : (b64L l n).length = 4 * n := by
  induction n with
  | zero => rfl
  | succ n ih => unfold b64L at *; rw [List.range_succ, List.flatMap_append, List.length_append, ih]; simp [fourL_length]; omega
theorem b64L_succ (l : List UInt8) (n : Nat) : b64L l (n + 1) = b64L l n ++ fourL (l.drop (3 * n)) := by
  unfold b64L; rw [List.range_succ, List.flatMap_append]; simp
/-- Bytes in a block of a type of their own. -/
def RowT (t : TypeId) (w : World) (g : Nat) (b : List UInt8) : Prop := w.heap[g]? = some (.cells (arrB b) t (0, 0))
theorem RowT.set {t : TypeId} {w : World} {g : Nat} {b : List UInt8} (h : RowT t w g b) (i : Nat) (x : UInt8) : RowT t (w.setCell ⟨g, i, none⟩ (.int .u8 (x.toNat : Int))) g (b.set i x) := by
  unfold RowT
  rw [heap_setCell_same w g i _ _ _ h]
  congr 2
  unfold arrB
  rw [← Array.toList_inj]
  simp [u8V, List.map_set]
theorem RowT.cell {t : TypeId} {w : World} {g : Nat} {b : List UInt8} (h : RowT t w g b) (i : Nat) (hi : i < b.length) : w.cell? ⟨g, i, none⟩ = some (.int .u8 ((gB b i).toNat : Int)) := by
  rw [cell_of_row _ _ _ _ _ _ h]
  simp [arrB, u8V, gB, List.getD, hi]
theorem RowT.frozen {t : TypeId} {w : World} {g : Nat} {b : List UInt8} (h : RowT t w g b) (i : Nat) : w.frozen? ⟨g, i, none⟩ = false := frozen_of_row w g i _ _ h
theorem RowT.q {t : TypeId} {w w' : World} {g : Nat} {b : List UInt8} (h : RowT t w g b) (hq : Q w w') : RowT t w' g b := hq.block h
/-- The first three bytes, the others 0. -/
theorem three_row (r : List UInt8) : ((arrB [0, 0, 0]).toList.take 0 ++ Lib.byteCells (r.take 3) ++ (arrB [0, 0, 0]).toList.drop (0 + (r.take 3).length)).toArray = arrB [gB r 0, gB r 1, gB r 2] := by
  match r with
  | [] => rfl
  | [a] => rfl
  | [a, b] => rfl
  | a :: b :: c :: t => rfl
theorem three_start (w w1 : World) (g : Nat) (r : List UInt8) (hg : w.heap.size ≤ g) (h : RowT 75 w1 g [0, 0, 0]) (hq : Q w w1) :
    ∃ w3, w3 = w1.setRow g ((arrB [0, 0, 0]).toList.take 0 ++ Lib.byteCells (r.take 3) ++ (arrB [0, 0, 0]).toList.drop (0 + (r.take 3).length)).toArray ∧ RowT 75 w3 g [gB r 0, gB r 1, gB r 2] ∧ Q w w3 := by
  refine ⟨_, rfl, ?_, Q.setRow hq hg _⟩
  unfold RowT
  simp only [World.setRow, Array.getElem?_modify, if_true]
  rw [h, three_row]
  rfl
theorem slice3 (w : World) (g : Nat) : (Instr.sliceAt 75 (.pointer (some ⟨g, 0, none⟩)) none none none).run Try.prog w = .ok (.slice (some ⟨g, 0, none⟩) 3 3) w := by kernel_rfl
theorem slice4 (w : World) (g : Nat) : (Instr.sliceAt 76 (.pointer (some ⟨g, 0, none⟩)) none none none).run Try.prog w = .ok (.slice (some ⟨g, 0, none⟩) 4 4) w := by kernel_rfl
theorem or_three (a b c : Nat) (ha : a < 256) (hb : b < 256) (hc : c < 256) : bits .or .i64 (bits .or .i64 ((a : Int) * 65536) ((b : Int) * 256)) (c : Int) = ((a * 65536 + b * 256 + c : Nat) : Int) := by
  rw [or_i64 16 ((a : Int) * 65536) ((b : Int) * 256) (by omega) (by omega) (by omega) (by omega) (by omega) (by omega)]
  rw [or_i64 8 ((a : Int) * 65536 + (b : Int) * 256) (c : Int) (by omega) (by omega) (by omega) (by omega) (by omega) (by omega)]
  omega
/-- The signs from n on up to k turned to '='. -/
def fillL (A : List UInt8) (n k : Nat) : List UInt8 := A.take n ++ List.replicate (k - n) 61 ++ A.drop k
theorem fillL_start (A : List UInt8) (n : Nat) : fillL A n n = A := by unfold fillL; simp
theorem fillL_length (A : List UInt8) (n k : Nat) (h : A.length = 4) (h1 : n ≤ k) (h2 : k ≤ 4) : (fillL A n k).length = 4 := by unfold fillL; simp; omega
theorem fillL_step (A : List UInt8) (n k : Nat) (h1 : n ≤ k) (h2 : k < 4) (h : A.length = 4) : (fillL A n k).set k 61 = fillL A n (k + 1) := by
  unfold fillL
  have h3 : (A.take n ++ List.replicate (k - n) 61).length = k := by simp; omega
  rw [List.set_append, if_neg (by omega), h3, Nat.sub_self, List.drop_eq_getElem_cons (by omega), List.set_cons_zero, show k + 1 - n = (k - n) + 1 from by omega, List.replicate_succ']
  simp
theorem i64_and63 (n : Int) : bits .and .i64 n 63 = n % 64 := by
  have h127 : (BitVec.ofInt 64 63).toNat = 2 ^ 6 - 1 := by decide
  have key : (BitVec.ofInt 64 n &&& BitVec.ofInt 64 63).toNat = (n % ((2 ^ 64 : Nat) : Int)).toNat % 2 ^ 6 := by
    rw [BitVec.toNat_and, BitVec.toNat_ofInt, h127, Nat.and_two_pow_sub_one_eq_mod]
  show IntKind.i64.wrap ((BitVec.ofInt 64 n &&& BitVec.ofInt 64 63).toNat : Nat) = n % 64
  rw [key, IntKind.wrap_i64]
  omega
theorem info5' : (Try.prog.info? 5).map (·.size) = some 1 := by kernel_rfl
theorem arrB_size' (b : List UInt8) : (arrB b).size = b.length := by simp [arrB]
def lenV2 : Value → Nat
  | .string s => s.size
  | _ => 0
set_option maxRecDepth 100000 in
set_option maxHeartbeats 4000000 in
theorem Base64_any (l : List UInt8) (w : World) (hl : l.length ≤ 140737488355328) : Calls Try.prog 24 #[.string ⟨l.toArray⟩] w fun e w' => e = .returned (.string ⟨(base64L l).toArray⟩) ∧ Q w w' := by
  go_enter Try.func24, Try.ntmps24
  go_wp2_with fail
  go_loopw [0, 3] (fun s v wr => ∃ j : Nat, 3 * j ≤ l.length + 2 ∧ s = .string ⟨(l.drop (3 * j)).toArray⟩ ∧ OwnB w wr v (b64L l j) ∧ Q w wr) (fun s _ _ => lenV2 s)
  case atStart => exact ⟨0, by omega, rfl, OwnB.nil _ _, Q.refl _⟩
  case round =>
    obtain ⟨j, hj, rfl, hO, hq⟩ := hrel
    have hlr : (l.drop (3 * j)).length = l.length - 3 * j := by simp
    have hbs := b64L_succ l j
    have hbl := b64L_length l j
    have hdd : (l.drop (3 * j)).drop 3 = l.drop (3 * (j + 1)) := by rw [List.drop_drop]; congr 1
    generalize hr : l.drop (3 * j) = r at *
    have hrl : r.length ≤ 140737488355328 := by omega
    by_cases h0 : 0 < r.length
    · have hd0 : decide (0 < r.length) = true := by simpa using h0
      have HO := Lib.hid hO
      have HQ := Lib.hid hq
      have HLR := Lib.hid hlr
      have HBS := Lib.hid hbs
      have HBL := Lib.hid hbl
      have HDD := Lib.hid hdd
      have HR := Lib.hid hr
      clear hO hq hlr hbs hbl hdd hr
      have hsl := fun w' : World => slice3 w' wr.heap.size
      go_upto_region 4 with (fail)
      obtain ⟨w4, hw4, hT4, hq4⟩ : ∃ w4, w4 = wr.alloc (.cells (arrB [0, 0, 0]) 75) ∧ RowT 75 w4 wr.heap.size [0, 0, 0] ∧ Q wr w4 := ⟨_, rfl, heap_alloc_new wr _, (Q.refl wr).alloc _⟩
      refine Eq.mp (congrArg _ hw4) ?_
      clear hw4
      have HT4 := Lib.hid hT4
      have HQ4 := Lib.hid hq4
      clear hT4 hq4
      iterate 7 go_step
      refine wpList_copy_str rfl (.tmp 12) (.tmp 13) 35 9 5 rfl Try.underlying35 info5' wr.heap.size 0 3 3 (by rfl) r (by rfl) _ 75 HT4.out (r.take 3) rfl (by rw [arrB_size']; simp; omega) ?_
      clear hsl
      obtain ⟨w5, hw5, hT5, hq5⟩ := three_start wr w4 wr.heap.size r (Nat.le_refl _) HT4.out HQ4.out
      rw [← hw5]
      clear hw5
      obtain ⟨N, hN⟩ : ∃ N, N = (r.take 3).length := ⟨_, rfl⟩
      have hN1 : 1 ≤ N := by rw [hN, List.length_take]; omega
      have hN3 : N ≤ 3 := by rw [hN, List.length_take]; omega
      have hNr : N ≤ r.length := by rw [hN, List.length_take]; omega
      have hdn : r.drop N = r.drop 3 := by
        rcases Nat.lt_or_ge r.length 3 with h | h
        · rw [List.drop_of_length_le (by rw [hN, List.length_take]; omega), List.drop_of_length_le (by omega)]
        · rw [hN, List.length_take, Nat.min_eq_left h]
      have hfl : fourL r = (four0 (w24 r)).take (N + 1) ++ List.replicate (3 - N) 61 := by unfold fourL; rw [← hN]
      rw [← hN]
      have c0 := hT5.cell 0 (by simp)
      have c1 := hT5.cell 1 (by simp)
      have c2 := hT5.cell 2 (by simp)
      have g0 : gB [gB r 0, gB r 1, gB r 2] 0 = gB r 0 := rfl
      have g1 : gB [gB r 0, gB r 1, gB r 2] 1 = gB r 1 := rfl
      have g2 : gB [gB r 0, gB r 1, gB r 2] 2 = gB r 2 := rfl
      rw [g0] at c0
      rw [g1] at c1
      rw [g2] at c2
      have hw := or_three (gB r 0).toNat (gB r 1).toNat (gB r 2).toNat (gB r 0).toNat_lt (gB r 1).toNat_lt (gB r 2).toNat_lt
      have hwb : w24 r < 16777216 := by unfold w24; have := (gB r 0).toNat_lt; have := (gB r 1).toNat_lt; have := (gB r 2).toNat_lt; omega
      rw [show (gB r 0).toNat * 65536 + (gB r 1).toNat * 256 + (gB r 2).toNat = w24 r from rfl] at hw
      have b0 := gB_lt r 0
      have b1 := gB_lt r 1
      have b2 := gB_lt r 2
      generalize w24 r = WN at *
      have HFL := Lib.hid hfl
      have HDN := Lib.hid hdn
      have HN := Lib.hid hN
      have HT5 := Lib.hid hT5
      have HQ5 := Lib.hid hq5
      clear hfl hdn hN hT5 hq5 HT4 HQ4 g0 g1 g2
      go_upto_region 7 with (fail)
      clear c0 c1 c2 hw b0 b1 b2
      have i1 : (WN : Int) / 262144 < 64 := by omega
      have i2 : (0 : Int) ≤ (WN : Int) / 262144 := by omega
      have i3 : (WN : Int) / 4096 % 64 < 64 := by omega
      have i4 : (0 : Int) ≤ (WN : Int) / 4096 % 64 := by omega
      have i5 : (WN : Int) / 64 % 64 < 64 := by omega
      have i6 : (0 : Int) ≤ (WN : Int) / 64 % 64 := by omega
      have i7 : (WN : Int) % 64 < 64 := by omega
      have i8 : (0 : Int) ≤ (WN : Int) % 64 := by omega
      have n1 : ((WN : Int) / 262144).toNat = WN / 262144 := by omega
      have n2 : ((WN : Int) / 4096 % 64).toNat = WN / 4096 % 64 := by omega
      have n3 : ((WN : Int) / 64 % 64).toNat = WN / 64 % 64 := by omega
      have n4 : ((WN : Int) % 64).toNat = WN % 64 := by omega
      have a1 := i64_and63 ((WN : Int) / 4096)
      have a2 := i64_and63 ((WN : Int) / 64)
      have a3 := i64_and63 (WN : Int)
      refine wp_region_pure [0, 1, 2, 3, 4, 5, 6, 7, 8, 9, 10, 11, 12, 13, 14] [15, 16] (by kernel_rfl) (by kernel_rfl) (by intro c a d v w h; cases d <;> exact h) ?_
      simp only [List.map_cons, List.map_nil, Array.getD_eq_getD_getElem?, List.getElem?_toArray, List.getElem?_cons_succ, List.getElem?_cons_zero, Option.getD_some]
      (repeat (go_big_quiet_step (fail)))
      refine wpQuiet_nil ?_
      clear a1 a2 a3 i1 i2 i3 i4 i5 i6 i7 i8 n1 n2 n3 n4
      go_upto_region 8 with (fail)
      obtain ⟨w7, hw7, hF7, hq7⟩ : ∃ w7, w7 = (w5.alloc (.cells (arrB (four0 WN)) 76)).drew ∧ RowT 76 w7 w5.heap.size (four0 WN) ∧ Q w5 w7 := ⟨_, rfl, heap_alloc_new w5 _, ((Q.refl w5).alloc _).drew⟩
      refine Eq.mp (congrArg _ hw7) ?_
      clear hw7
      have h5 : wr.heap.size ≤ w5.heap.size := HQ5.out.size
      have HF7 := Lib.hid hF7
      have HQ7 := Lib.hid (HQ5.out.trans hq7)
      clear hF7 hq7 HQ5 HT5
      go_wp2_with fail
      obtain ⟨wq, rfl⟩ : ∃ wq : World, wq = wr := ⟨_, rfl⟩
      go_loopw [8] (fun i wz => ∃ k : Nat, N + 1 ≤ k ∧ k ≤ 4 ∧ i = .int .i64 k ∧ RowT 76 wz w5.heap.size (fillL (four0 WN) (N + 1) k) ∧ Q wq wz) (fun i _ => 4 - (intOf i).toNat)
      case atStart => exact ⟨N + 1, Nat.le_refl _, by omega, by go_num, by rw [fillL_start]; exact HF7.out, HQ7.out⟩
      case round =>
        obtain ⟨k, hk1, hk2, rfl, hF, hq2⟩ := hrel
        by_cases hk4 : k < 4
        · have hd4 : decide ((k : Int) < 4) = true := by simp; omega
          have hfl : (fillL (four0 WN) (N + 1) k).length = 4 := fillL_length _ _ _ rfl hk1 hk2
          have hc := hF.cell k (by rw [hfl]; exact hk4)
          have hf := hF.frozen k
          have HF := Lib.hid hF
          have HQ2 := Lib.hid hq2
          clear hF hq2 HF7 HQ7 hfl
          go_wp2_with fail
          go_roundw
          case rel =>
            refine ⟨k + 1, by omega, by omega, by go_num, ?_, Q.setNew HQ2.out h5 _⟩
            rw [← fillL_step _ _ _ hk1 hk4 rfl]
            exact HF.out.set k 61
          case measure => simp [intOf]; omega
        · obtain rfl : k = 4 := by omega
          rw [show ((4 : Nat) : Int) = 4 from rfl]
          have hd4 : decide ((4 : Int) < 4) = false := by decide
          have hff : fillL (four0 WN) (N + 1) 4 = fourL r := by rw [HFL.out]; unfold fillL; rw [List.drop_of_length_le (l := four0 WN) (by simp [four0])]; simp
          rw [hff] at hF
          have hl4 := fourL_length r
          have hsl := fun w' : World => slice4 w' w5.heap.size
          have hcc : ∀ j (h : j < (fourL r).length), wr.cell? ((⟨w5.heap.size, 0, none⟩ : Addr).add j) = some (u8V (fourL r)[j]) := fun j h => by
            rw [add_off, Nat.zero_add, hF.cell j h]; simp [u8V, gB, List.getD, h]
          have HCC := Lib.hid hcc
          have HL4 := Lib.hid hl4
          have HO2 := Lib.hid (HO.out.q hq2)
          have HQ2 := Lib.hid (HQ.out.trans hq2)
          clear hF hq2 hcc hff hl4 HF7 HQ7
          go_wp2_with (at_builtin; refine wpList_append_from rfl (.tmp 54) (.tmp 55) rfl w wr _ (b64L l j) (by rfl) HO2.out HQ2.out ⟨w5.heap.size, 0, none⟩ (fourL r) 4 4 HL4.out (by rfl) HCC.out (by rw [HBL.out]; have := HLR.out; omega) ?_; intro v9 w9 hown9 hq9 _; have HO9 := Lib.hid hown9; have HQ9 := Lib.hid hq9; clear hown9 hq9)
          go_roundw
          case rel => exact ⟨j + 1, by have := HLR.out; omega, by rw [sub_all, HDN.out, HDD.out], by rw [HBS.out]; exact HO9.out, HQ9.out⟩
          case measure => show (sub r N r.length).length < r.length; rw [length_sub]; omega
    · have hr0 : r = [] := List.eq_nil_of_length_eq_zero (by omega)
      have hjj : j = (l.length + 2) / 3 := by omega
      subst hr0
      have hd0 : decide (0 < ([] : List UInt8).length) = false := rfl
      have hbb : b64L l j = base64L l := by rw [hjj]; rfl
      rw [hbb] at hO
      have hcv := conv_b hO
      have HQ := Lib.hid hq
      clear hO hq hbs hbl hdd hr hlr hbb hjj
      go_wp2_with fail
      go_ret
      exact ⟨rfl, HQ.out⟩
end Go.Proofs.Yteadblkkbbhpjaa
