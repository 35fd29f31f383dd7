/- frame.times, square, Join; the document's Join. -/
import Derived.Test.YtcfomkbmmpogdaaFrD
import Derived.Test.YtcfomkbmmpogdaaCrcM
import Derived.Outline
set_option linter.unusedVariables false
namespace Go.Proofs.Ytcfomkbmmpogdaa
open Go Go.RowKit

def u32V (x : BitVec 32) : Value := .int .u32 (x.toNat : Int)
def arrM (M : List (BitVec 32)) : Array Value := (M.map u32V).toArray
/-- A row of 32 numbers in a block of its own. -/
def MatAt (w : World) (g : Nat) (M : List (BitVec 32)) : Prop := w.heap[g]? = some (.cells (arrM M) 70 (0, 0)) ∧ M.length = 32
theorem MatAt.q {w w' : World} {g : Nat} {M : List (BitVec 32)} (h : MatAt w g M) (hq : Q w w') : MatAt w' g M := ⟨hq.block h.1, h.2⟩
theorem MatAt.cell {w : World} {g : Nat} {M : List (BitVec 32)} (h : MatAt w g M) (i : Nat) (hi : i < 32) : w.cell? ⟨g, i, none⟩ = some (.int .u32 ((M.getD i 0#32).toNat : Int)) := by
  have h2 := h.2
  unfold World.cell?
  rw [h.1]
  simp [arrM, u32V, List.getD, h2, hi]

/-- The bits from k on. -/
def sv (v : BitVec 32) (k : Nat) : BitVec 32 := v >>> k
theorem bit_and1 (v : BitVec 32) (k : Nat) : (bits .and .u32 ((sv v k).toNat : Int) 1 == 1) = v.getLsbD k := by
  rw [and1_32, Bool.eq_iff_iff]
  simp only [decide_eq_true_eq]
  unfold sv
  constructor
  · intro h
    have := congrArg (fun y => BitVec.getLsbD y 0) h
    simpa using this
  · intro h
    apply BitVec.eq_of_getLsbD_eq
    intro i hi
    rw [BitVec.getLsbD_and]
    rcases i with _ | i
    · simp [h]
    · have : (1#32).getLsbD (i + 1) = false := by simp [BitVec.getLsbD_one]
      rw [this]; simp
theorem shr_succ (v : BitVec 32) (k : Nat) : ((sv v k).toNat : Int) / 2 = ((sv v (k + 1)).toNat : Int) := by
  have := shr32 (sv v k)
  rw [this]; unfold sv; rw [← BitVec.shiftRight_add]

set_option maxHeartbeats 1000000 in
theorem times_any (g : Nat) (M : List (BitVec 32)) (v : BitVec 32) (w : World) (h : MatAt w g M) :
    Calls Try.prog 40 #[.pointer (some ⟨g, 0, none⟩), .int .u32 (v.toNat : Int)] w fun e w' => ∃ k, k ≤ 32 ∧ sv v k = 0#32 ∧ e = .returned (.int .u32 ((tmK M v k).toNat : Int)) ∧ w = w' := by
  go_enter Try.func40, Try.ntmps40
  go_wp2
  go_loop [1, 4, 5] (fun t o i => ∃ k : Nat, k ≤ 32 ∧ i = .int .i64 k ∧ t = .int .u32 ((sv v k).toNat : Int) ∧ o = .int .u32 ((tmK M v k).toNat : Int)) (fun _ _ i => 33 - (intOf i).toNat)
  case atStart => exact ⟨0, by omega, rfl, by simp [sv], rfl⟩
  case round =>
    obtain ⟨k, hk, rfl, rfl, rfl⟩ := hrel
    have y1 := (sv v k).isLt
    have y2 : ((sv v k).toNat : Int) < 4294967296 := by omega
    have hs := shr_succ v k
    have hb := bit_and1 v k
    by_cases hz : sv v k = 0#32
    · have hz1 : (((sv v k).toNat : Int) != 0) = false := by rw [hz]; rfl
      clear hs hb y1
      go_wp2
      go_ret
      exact ⟨k, hk, hz, rfl, rfl⟩
    · have hz1 : (((sv v k).toNat : Int) != 0) = true := by
        rw [bne_iff_ne]
        intro h0
        exact hz (BitVec.eq_of_toNat_eq (by simpa using h0))
      have hk2 : k < 32 := by
        rcases Nat.lt_or_ge k 32 with h1 | h1
        · exact h1
        · exact (hz (by unfold sv; exact BitVec.ushiftRight_eq_zero h1)).elim
      have hc := h.cell k hk2
      have hx := xor32 (tmK M v k) (M.getD k 0#32)
      by_cases hbit : v.getLsbD k = true
      · rw [hbit] at hb
        have HT : Hid (tmK M v (k + 1) = tmK M v k ^^^ M.getD k 0#32) := by rw [tmK, if_pos hbit]; rfl
        have HS := Lib.hid hs
        have HX := Lib.hid hx
        clear hs hx hbit
        go_wp2
        go_round
        case rel => exact ⟨k + 1, by omega, by go_num, by rw [HS.out], by rw [HT.out, ← HX.out]; simp [List.getD]⟩
        case measure => simp [intOf]; omega
      · have hbit : v.getLsbD k = false := by simpa using hbit
        rw [hbit] at hb
        have HT : Hid (tmK M v (k + 1) = tmK M v k) := by rw [tmK, if_neg (by rw [hbit]; decide)]; rfl
        have HS := Lib.hid hs
        clear hs hx hbit
        go_wp2
        go_round
        case rel => exact ⟨k + 1, by omega, by go_num, by rw [HS.out], by rw [HT.out]⟩
        case measure => simp [intOf]; omega
theorem times_mat (g e : Nat) (v : BitVec 32) (w : World) (h : MatAt w g (matOf e)) :
    Calls Try.prog 40 #[.pointer (some ⟨g, 0, none⟩), .int .u32 (v.toNat : Int)] w fun x w' => x = .returned (.int .u32 ((shN e v).toNat : Int)) ∧ w = w' :=
  (times_any g _ v w h).mono fun x w' ⟨k, hk, hz, hx, hw⟩ => ⟨by rw [hx, tmK_mat e v k hk, low_all v k hz], hw⟩

theorem MatAt.frozen {w : World} {g : Nat} {M : List (BitVec 32)} (h : MatAt w g M) (i : Nat) : w.frozen? ⟨g, i, none⟩ = false := frozen_of_row w g i _ _ h.1
theorem MatAt.set {w : World} {g : Nat} {M : List (BitVec 32)} (h : MatAt w g M) (i : Nat) (x : BitVec 32) : MatAt (w.setCell ⟨g, i, none⟩ (.int .u32 (x.toNat : Int))) g (M.set i x) := by
  refine ⟨?_, by rw [List.length_set]; exact h.2⟩
  rw [heap_setCell_same w g i _ _ _ h.1]
  congr 2
  unfold arrM
  rw [← Array.toList_inj]
  simp [u32V, List.map_set]
theorem MatAt.other {w : World} {g g' : Nat} {M : List (BitVec 32)} (h : MatAt w g M) (hg : g ≠ g') (i : Nat) (v : Value) : MatAt (w.setCell ⟨g', i, none⟩ v) g M :=
  ⟨by rw [heap_setCell_other w ⟨g', i, none⟩ g v hg]; exact h.1, h.2⟩
theorem MatAt.lt {w : World} {g : Nat} {M : List (BitVec 32)} (h : MatAt w g M) : g < w.heap.size := by
  rcases Nat.lt_or_ge g w.heap.size with h1 | h1
  · exact h1
  · have := h.1; rw [Array.getElem?_eq_none h1] at this; cases this
theorem MatAt.new (w : World) (M : List (BitVec 32)) (h : M.length = 32) : MatAt (w.alloc (.cells (arrM M) 70)) w.heap.size M := ⟨heap_alloc_new w _, h⟩
theorem MatAt.alloc {w : World} {g : Nat} {M : List (BitVec 32)} (h : MatAt w g M) (o : Obj) : MatAt (w.alloc o) g M := ⟨(Below.heap_alloc w o g h.lt).trans h.1, h.2⟩
/-- The first k of the rows, the others 0. -/
def partM (f : Nat → BitVec 32) (k : Nat) : List (BitVec 32) := (List.range 32).map fun i => if i < k then f i else 0#32
theorem partM_length (f : Nat → BitVec 32) (k : Nat) : (partM f k).length = 32 := by simp [partM]
theorem partM_set (f : Nat → BitVec 32) (k : Nat) (hk : k < 32) : (partM f k).set k (f k) = partM f (k + 1) := by
  apply List.ext_getElem (by simp [partM])
  intro i h1 h2
  rw [List.getElem_set]
  have hi : i < 32 := by simpa [partM] using h2
  by_cases h3 : k = i
  · subst h3; simp [partM]
  · rw [if_neg h3]
    simp only [partM, List.getElem_map, List.getElem_range]
    by_cases h4 : i < k
    · rw [if_pos h4, if_pos (by omega)]
    · rw [if_neg h4, if_neg (by omega)]
theorem partM_zero (f : Nat → BitVec 32) : partM f 0 = List.replicate 32 0#32 := by unfold partM; rfl
theorem partM_all (f : Nat → BitVec 32) : partM f 32 = (List.range 32).map f := by
  unfold partM
  apply List.map_congr_left
  intro i hi
  rw [if_pos (by simpa using hi)]
def col (e i : Nat) : BitVec 32 := shN e (1#32 <<< i)
theorem part_mat (e : Nat) : partM (col e) 32 = matOf e := partM_all _
theorem arr_all (M : List (BitVec 32)) : (arrM M).all (·.oneCell') = true := by
  rw [Array.all_eq_true_iff_forall_mem]
  intro v hv
  have : v ∈ M.map u32V := by simpa [arrM] using hv
  obtain ⟨x, _, rfl⟩ := List.mem_map.1 this
  rfl
theorem arr_size (M : List (BitVec 32)) : (arrM M).size = M.length := by simp [arrM]
theorem setRow_same {w : World} {g : Nat} {cs : Array Value} {t : TypeId} {fr : Nat × Nat} (h : w.heap[g]? = some (.cells cs t fr)) : w.setRow g cs = w := by
  have e1 : (w.setRow g cs).heap = w.heap := by
    apply Array.ext_getElem?
    intro i
    simp only [World.setRow, Array.getElem?_modify]
    split
    · next hi => subst hi; rw [h]; rfl
    · rfl
  have e2 : w.setRow g cs = { w with heap := (w.setRow g cs).heap } := rfl
  rw [e2, e1]
theorem info70 : (Try.prog.info? 70).map (·.size) = some 32 := by kernel_rfl

set_option maxHeartbeats 1000000 in
theorem square_mat (e : Nat) (w : World) :
    Calls Try.prog 41 #[.agg (arrM (matOf e))] w fun x w' => x = .returned (.agg (arrM (matOf (2 * e)))) ∧ Q w w' := by
  go_enter Try.func41, Try.ntmps41
  go_wp2
  go_loopw [4] (fun i wr => ∃ k : Nat, k ≤ 32 ∧ i = .int .i64 k ∧ MatAt wr w.heap.size (matOf e) ∧ MatAt wr (w.heap.size + 1) (partM (col (2 * e)) k) ∧ Q w wr) (fun i _ => 32 - (intOf i).toNat)
  case atStart =>
    refine ⟨0, by omega, rfl, (MatAt.new w _ (matOf_length e)).alloc _, ?_, ((Q.refl _).alloc _).alloc _⟩
    rw [partM_zero]
    have := MatAt.new (w.alloc (.cells (arrM (matOf e)) 70)) (List.replicate 32 0#32) (by simp)
    have hs : (w.alloc (.cells (arrM (matOf e)) 70)).heap.size = w.heap.size + 1 := by simp
    rw [hs] at this
    exact this
  case round =>
    obtain ⟨k, hk, rfl, hm, hp, hq⟩ := hrel
    by_cases hlt : k < 32
    · have hc1 := hm.cell k hlt
      rw [matOf_at e k hlt] at hc1
      have hc2 := hp.cell k hlt
      have hf := hp.frozen k
      have hlt1 : w.heap.size < wr.heap.size := hm.lt
      have hlt2 : w.heap.size + 1 < wr.heap.size := hp.lt
      go_wp2_with (go_at_call 40; refine (times_mat _ e _ _ hm).mono ?_; rintro x w' ⟨rfl, rfl⟩)
      go_roundw
      case rel =>
        refine ⟨k + 1, by omega, by go_num, hm.other (by omega) _ _, ?_, hq.setNew (by simp) _⟩
        rw [← partM_set _ k hlt]
        have e1 : shN e (shN e (1#32 <<< k)) = col (2 * e) k := by unfold col; rw [← shN_add, Nat.two_mul]
        rw [← e1]
        exact hp.set k _
      case measure => simp [intOf]; omega
    · obtain rfl : k = 32 := by omega
      rw [part_mat] at hp
      have hsz : (arrM (matOf (2 * e))).size = 32 := by rw [arr_size, matOf_length]
      go_wp2_with (first | (refine wpList_load_row rfl 70 _ rfl _ rfl 70 _ _ _ hp.1 Try.underlying70 rfl (by rw [hsz]; exact info70) ?_) | (refine wpList_store_row rfl 70 _ _ rfl _ (arrM (matOf (2 * e))) rfl rfl 70 _ hp.1 (by rw [hsz]; exact info70) rfl (arr_all _) ?_))
      rw [setRow_same hp.1]
      refine bodyPost_ret (v := .agg (arrM (matOf (2 * e)))) ?_ rfl ⟨rfl, hq⟩
      exact results_cell_row rfl _ _ _ _ _ _ _ rfl hp.1 Try.underlying70 rfl (by rw [hsz]; exact info70)

theorem RJoin_bad (a b n : Int) (w : World) (h : n < 0 ∨ 60000 < n) :
    Calls Try.prog 22 #[.int .u32 a, .int .u32 b, .int .i64 n] w fun x w' => x = .returned (.int .u32 0) ∧ w = w' := by
  by_cases h0 : n < 0
  · go_enter Try.func22, Try.ntmps22
    go_wp2
    go_ret
    exact ⟨rfl, rfl⟩
  · have h1 : 60000 < n := by omega
    clear h
    go_enter Try.func22, Try.ntmps22
    go_wp2
    go_ret
    exact ⟨rfl, rfl⟩
theorem Join_bad (a b n : Int) (w : World) (h : n < 0 ∨ 60000 < n) :
    Calls Try.prog 21 #[.int .u32 a, .int .u32 b, .int .i64 n] w fun x w' => x = .returned (.int .u32 0) ∧ w = w' := by
  by_cases h0 : n < 0
  · go_enter Try.func21, Try.ntmps21
    go_wp2_with fail
    go_ret
    exact ⟨rfl, rfl⟩
  · have h1 : 60000 < n := by omega
    clear h
    go_enter Try.func21, Try.ntmps21
    go_wp2_with fail
    go_ret
    exact ⟨rfl, rfl⟩
theorem shift0R (r : BitVec 32) (w : World) :
    Calls Try.prog 39 #[.int .u32 (r.toNat : Int), .int .u8 0] w fun e w' => e = .returned (.int .u32 ((shB r 0).toNat : Int)) ∧ w = w' := Shift_any r 0 w
set_option maxHeartbeats 1000000 in
theorem RJoin_ok (a b : BitVec 32) (n : Nat) (w : World) (h : n ≤ 60000) :
    Calls Try.prog 22 #[.int .u32 (a.toNat : Int), .int .u32 (b.toNat : Int), .int .i64 n] w fun x w' => x = .returned (.int .u32 ((iterB a n ^^^ b).toNat : Int)) ∧ w = w' := by
  go_enter Try.func22, Try.ntmps22
  go_wp2_with fail
  go_loop [0, 7] (fun t i => ∃ k : Nat, k ≤ n ∧ i = .int .i64 k ∧ t = .int .u32 ((iterB a k).toNat : Int)) (fun _ i => n - (intOf i).toNat)
  case atStart => exact ⟨0, by omega, rfl, rfl⟩
  case round =>
    obtain ⟨k, hk, rfl, rfl⟩ := hrel
    by_cases hlt : k < n
    · have HS : Hid (iterB a (k + 1) = shB (iterB a k) 0) := iterB_succ a k
      go_wp2_with (go_at_call 39; refine (shift0R _ _).mono ?_; rintro e w' ⟨rfl, rfl⟩)
      go_round
      case rel => exact ⟨k + 1, by omega, by go_num, by rw [HS.out]⟩
      case measure => simp [intOf]; omega
    · obtain rfl : k = n := by omega
      have hx := xor32 (iterB a k) b
      have HX := Lib.hid hx
      clear hx
      go_wp2_with fail
      go_ret
      exact ⟨ret_int HX.out, rfl⟩

theorem MatAt.put {w : World} {g : Nat} {M M' : List (BitVec 32)} (h : MatAt w g M) (h' : M'.length = 32) : MatAt (w.setRow g (arrM M')) g M' := by
  refine ⟨?_, h'⟩
  simp only [World.setRow, Array.getElem?_modify, if_true, h.1]
  rfl
theorem Q.setRow {a b : World} (h : Q a b) {g : Nat} (hg : a.heap.size ≤ g) (cs : Array Value) : Q a (b.setRow g cs) :=
  Q.below h ⟨rfl, rfl, rfl, by simp, fun k hk => by
    simp only [World.setRow, Array.getElem?_modify]
    rw [if_neg (by omega)]⟩
theorem col1_val : ∀ k, k < 32 → 1 ≤ k → ((2 : Int) ^ (k - 1) % 4294967296) = ((col 1 k).toNat : Int) := by decide +kernel
theorem i64_odd (B : Nat) (hB : B < 1000000) : (bits .and .i64 (B : Int) 1 == 1) = decide (B % 2 = 1) := by
  have h := bits_mask .i64 63 (by decide) wraps_i64 1 (by decide) (B : Int) (by omega) (by omega)
  have e1 : ((2 : Int) ^ 1 - 1) = 1 := by decide
  rw [e1] at h
  rw [h, Bool.eq_iff_iff]
  simp; omega
theorem join_odd (n t : Nat) (h : 8 * n / 2 ^ t % 2 = 1) : 8 * n % 2 ^ (t + 1) = 2 ^ t + 8 * n % 2 ^ t := by
  rw [Nat.pow_succ, Nat.mod_mul, h]; omega
theorem join_even (n t : Nat) (h : 8 * n / 2 ^ t % 2 ≠ 1) : 8 * n % 2 ^ (t + 1) = 8 * n % 2 ^ t := by
  have h2 : 8 * n / 2 ^ t % 2 = 0 := by omega
  rw [Nat.pow_succ, Nat.mod_mul, h2]; omega
set_option maxRecDepth 100000 in
set_option maxHeartbeats 1000000 in
theorem Join_ok (a b : BitVec 32) (n : Nat) (w : World) (h : n ≤ 60000) :
    Calls Try.prog 21 #[.int .u32 (a.toNat : Int), .int .u32 (b.toNat : Int), .int .i64 n] w fun x w' => x = .returned (.int .u32 ((iterB a n ^^^ b).toNat : Int)) ∧ Q w w' := by
  go_enter Try.func21, Try.ntmps21
  go_wp2_with fail
  go_loopw [8] (fun i wr => ∃ k : Nat, 1 ≤ k ∧ k ≤ 32 ∧ i = .int .i64 k ∧ MatAt wr w.heap.size (partM (col 1) k) ∧ Q w wr) (fun i _ => 32 - (intOf i).toNat)
  case atStart =>
    refine ⟨1, by omega, by omega, rfl, ?_, (Q.refl _).alloc _⟩
    have e1 : partM (col 1) 1 = 0x82F63B78#32 :: List.replicate 31 0#32 := by decide +kernel
    rw [e1]
    exact MatAt.new w (0x82F63B78#32 :: List.replicate 31 0#32) rfl
  case round =>
    obtain ⟨k, hk1, hk, rfl, hm, hq⟩ := hrel
    by_cases hlt : k < 32
    · have hc2 := hm.cell k hlt
      have hf := hm.frozen k
      go_wp2_with fail
      go_roundw
      case rel =>
        refine ⟨k + 1, by omega, by omega, by go_num, ?_, hq.setNew (by simp) _⟩
        rw [← partM_set _ k hlt, col1_val k hlt hk1]
        exact hm.set k _
      case measure => simp [intOf]; omega
    · obtain rfl : k = 32 := by omega
      rw [part_mat] at hm
      rw [show ((32 : Nat) : Int) = 32 from rfl]
      go_wp2_with fail
      go_loopw [0, 9] (fun x z wr => ∃ t : Nat, z = .int .i64 (8 * n / 2 ^ t : Nat) ∧ x = .int .u32 ((shN (8 * n % 2 ^ t) a).toNat : Int) ∧ MatAt wr w.heap.size (matOf (2 ^ t)) ∧ Q w wr) (fun _ z _ => (intOf z).toNat)
      case atStart => exact ⟨0, by simp, by simp [Nat.mod_one, shN], hm, hq⟩
      case round =>
        obtain ⟨t, rfl, rfl, hm, hq⟩ := hrel
        have hB : 8 * n / 2 ^ t ≤ 480000 := Nat.le_trans (Nat.div_le_self _ _) (by omega)
        have hB2 : 8 * n / 2 ^ (t + 1) = 8 * n / 2 ^ t / 2 := by rw [Nat.pow_succ, Nat.div_div_eq_div_mul]
        have HB2 := Lib.hid hB2
        have hodd := i64_odd (8 * n / 2 ^ t) (by omega)
        have jo := join_odd n t
        have je := join_even n t
        have HJO := Lib.hid jo
        have HJE := Lib.hid je
        clear jo je hB2
        generalize hBB : 8 * n / 2 ^ t = B at *
        by_cases hz : B = 0
        · have hr : 8 * n % 2 ^ t = 8 * n := by
            have h1 := Nat.div_add_mod (8 * n) (2 ^ t)
            rw [hBB, hz] at h1
            simpa using h1
          rw [hr]
          have hx := xor32 (iterB a n) b
          have hd : decide (0 < (B : Int)) = false := by simp; omega
          have hd2 : decide (0 < B) = false := by simp; omega
          have HX := Lib.hid hx
          have HZ := Lib.hid hz
          clear hx hodd hBB hz hr
          go_wp2_with fail
          go_ret
          exact ⟨ret_int HX.out, hq⟩
        · have hd : decide (0 < (B : Int)) = true := by simp; omega
          have hd2 : decide (0 < B) = true := by simp; omega
          have HBB := Lib.hid hBB
          clear hBB
          by_cases ho : B % 2 = 1
          · have hb : (bits .and .i64 (B : Int) 1 == 1) = true := by rw [hodd]; simpa using ho
            clear hodd
            go_wp2_with fail
            refine (times_mat _ _ _ _ hm).mono ?_
            rintro x w4 ⟨rfl, rfl⟩
            have hsz := fun e => (arr_size (matOf e)).trans (matOf_length e)
            go_wp2_with (first | (refine wpList_load_row rfl 70 _ rfl _ rfl 70 _ _ _ hm.1 Try.underlying70 rfl (by rw [hsz]; exact info70) ?_) | (go_at_call 41; refine (square_mat _ _).mono ?_; rintro x w5 ⟨rfl, hq5⟩; have hm5 := hm.q hq5) | (refine wpList_store_row rfl 70 _ _ rfl _ (arrM (matOf (2 * 2 ^ t))) rfl rfl 70 _ hm5.1 (by rw [hsz]; exact info70) (by rw [hsz, hsz]) (arr_all _) ?_))
            go_roundw
            case rel =>
              refine ⟨t + 1, by rw [HB2.out]; go_num, ?_, ?_, (hq.trans ‹Q wr _›).setRow (Nat.le_refl _) _⟩
              · rw [HJO.out ho, shN_add]
              · rw [Nat.pow_succ, Nat.mul_comm (2 ^ t) 2]
                exact MatAt.put ‹MatAt _ _ _› (matOf_length _)
            case measure => simp [intOf]; omega
          · have hb : (bits .and .i64 (B : Int) 1 == 1) = false := by rw [hodd]; simpa using ho
            clear hodd
            have hsz := fun e => (arr_size (matOf e)).trans (matOf_length e)
            go_wp2_with (first | (refine wpList_load_row rfl 70 _ rfl _ rfl 70 _ _ _ hm.1 Try.underlying70 rfl (by rw [hsz]; exact info70) ?_) | (go_at_call 41; refine (square_mat _ _).mono ?_; rintro x w5 ⟨rfl, hq5⟩; have hm5 := hm.q hq5) | (refine wpList_store_row rfl 70 _ _ rfl _ (arrM (matOf (2 * 2 ^ t))) rfl rfl 70 _ hm5.1 (by rw [hsz]; exact info70) (by rw [hsz, hsz]) (arr_all _) ?_))
            go_roundw
            case rel =>
              refine ⟨t + 1, by rw [HB2.out]; go_num, ?_, ?_, (hq.trans ‹Q wr _›).setRow (Nat.le_refl _) _⟩
              · rw [HJE.out ho]
              · rw [Nat.pow_succ, Nat.mul_comm (2 ^ t) 2]
                exact MatAt.put ‹MatAt _ _ _› (matOf_length _)
            case measure => simp [intOf]; omega
end Go.Proofs.Ytcfomkbmmpogdaa
