/- FrameBit: a record with a bit turned is none. -/
import Derived.Test.YtcfomkbmmpogdaaFrG
import Derived.Test.YtcfomkbmmpogdaaFrP
import Derived.Test.YtcfomkbmmpogdaaFrM
import Derived.RegionTactic
import Derived.BigRegion
set_option linter.unusedVariables false
namespace Go.Proofs.Ytcfomkbmmpogdaa
open Go Go.RowKit


/-- []byte(s): a row of its own, of which nothing is frozen. -/
theorem bytes_open (w : World) (l : List UInt8) : ∃ cap O, (convert 9 40 (.string ⟨l.toArray⟩)).run Try.prog w = .ok (.slice (some ⟨w.heap.size, 0, none⟩) l.length cap) (w.drew.alloc O) ∧ l.length ≤ cap ∧
    (∀ i, i < l.length → (w.drew.alloc O).cell? ⟨w.heap.size, i, none⟩ = some (.int .u8 ((gB l i).toNat : Int))) ∧ (∀ i, i < l.length → (w.drew.alloc O).frozen? ⟨w.heap.size, i, none⟩ = false) := by
  refine ⟨_, _, run_bytes_of_string w _ _ _ _ Try.underlying9 Try.underlying40 Try.underlying5, grownCap_ge _ _ _ _, ?_, ?_⟩
  all_goals
    intro i hi
    have hh : ∀ C fr, (w.drew.alloc (.cells C 5 fr)).heap[w.heap.size]? = some (.cells C 5 fr) := fun C fr => (MapKept.heap_alloc w.drew _).1
  · unfold World.cell?
    rw [hh]
    simp only [Option.isSome_none, Bool.false_eq_true, if_false]
    have := bytesRow_at ⟨l.toArray⟩ (grownCap w (ByteArray.mk l.toArray).size 0 5) i (by simpa using hi)
    rw [this]
    simp [gB, List.getD, hi]
  · unfold World.frozen?
    rw [hh]
    have h1 : (bytesRow ⟨l.toArray⟩ (grownCap w (ByteArray.mk l.toArray).size 0 5)).size ≥ l.length := by
      unfold bytesRow; simp
    simp only [Bool.and_eq_false_iff, decide_eq_false_iff_not]
    exact .inl (by omega)

theorem xor8 (a b : UInt8) : bits .xor .u8 (a.toNat : Int) (b.toNat : Int) = ((a ^^^ b).toNat : Int) := by
  show IntKind.u8.wrap ((BitVec.ofInt 8 _ ^^^ BitVec.ofInt 8 _).toNat : Int) = _
  have h : ∀ x : UInt8, BitVec.ofInt 8 (x.toNat : Int) = x.toBitVec := fun x => by simp
  rw [h, h, IntKind.wrap_u8]
  have e : (a.toBitVec ^^^ b.toBitVec).toNat = (a ^^^ b).toNat := rfl
  rw [e]
  have := (a ^^^ b).toNat_lt
  omega
/-- The row with one byte of it written over, as a text. -/
theorem flip_back (b : Nat) (w : World) (l : List UInt8) (cap i : Nat) (x : UInt8) (z : Int) (h : i < l.length) (hz : z = ((gB l i ^^^ x).toNat : Int))
    (hcell : ∀ k, k < l.length → w.cell? ⟨b, k, none⟩ = some (.int .u8 ((gB l k).toNat : Int))) (w' : World)
    (hw : ∀ a, w'.cell? a = (w.setCell ⟨b, i, none⟩ (.int .u8 z)).cell? a) :
    (convert 40 9 (.slice (some ⟨b, 0, none⟩) l.length cap)).run Try.prog w' = .ok (.string ⟨(flipB l i x).toArray⟩) w' := by
  have h0 := run_convert_bytes_back (P := Try.prog) w' 40 9 5 ⟨b, 0, none⟩ cap (flipB l i x) Try.underlying40 Try.underlying5 Try.underlying9
  have e0 : (flipB l i x).length = l.length := length_flip l i x
  rw [← e0]
  apply h0
  intro k hk
  rw [length_flip] at hk
  have e1 : (Addr.add ⟨b, 0, none⟩ k) = ⟨b, k, none⟩ := by unfold Addr.add; split <;> simp_all
  rw [e1, hw]
  have e2 : (flipB l i x)[k]'(by rw [length_flip]; exact hk) = gB (flipB l i x) k := by unfold gB; simp [List.getD, length_flip, hk]
  rw [e2]
  by_cases e : i = k
  · subst e
    rw [gB_flip _ _ _ h, World.cell?_setCell_same _ _ _ (hcell i h), hz]
  · rw [gB_flip_ne _ _ _ _ e, World.cell?_setCell_other _ _ _ _ (by intro h; simp only [Addr.mk.injEq] at h; omega), hcell k hk]
/-- The bit as a byte. -/
def bitB (j : Nat) : UInt8 := byteOf ((2 : Int) ^ (j % 8))
theorem bitB_val : ∀ k, k < 8 → ((2 : Int) ^ k % 256 = ((byteOf ((2 : Int) ^ k)).toNat : Int)) ∧ byteOf ((2 : Int) ^ k) ≠ 0 := by decide +kernel
theorem bitB_ne (j : Nat) : bitB j ≠ 0 := (bitB_val (j % 8) (by omega)).2
theorem bitB_int (j : Nat) : (2 : Int) ^ (j % 8) % 256 = ((bitB j).toNat : Int) := (bitB_val (j % 8) (by omega)).1

/-- Which bit is meant. -/
def whichN (q b : Int) : Nat := ((if b < 0 then -(b + 1) else b) % (8 * (24 + q))).toNat
def whichB (q b : Int) : Nat := if 8 ≤ whichN q b ∧ whichN q b < 64 then whichN q b % 8 else whichN q b
theorem whichB_spec (q : Nat) (b : Int) : whichB q b < 8 * (24 + q) ∧ (whichB q b / 8 = 0 ∨ 8 ≤ whichB q b / 8) := by
  have h1 : whichN q b < 8 * (24 + q) := by
    unfold whichN
    have := Int.emod_lt_of_pos (if b < 0 then -(b + 1) else b) (show (0 : Int) < 8 * (24 + (q : Int)) from by omega)
    have := Int.emod_nonneg (if b < 0 then -(b + 1) else b) (show (8 * (24 + (q : Int))) ≠ 0 from by omega)
    omega
  unfold whichB
  split
  · omega
  · omega

set_option maxRecDepth 100000 in
set_option maxHeartbeats 4000000 in
theorem FrameBit_any (p : List UInt8) (b : Int) (w : World) (hl : p.length ≤ 140737488355328) (hb : -9223372036854775808 ≤ b ∧ b ≤ 9223372036854775807) :
    Calls Try.prog 6 #[.string ⟨p.toArray⟩, .int .i64 b] w fun x w' => x = .returned (.bool true) ∧ Q w w' := by
  have h1 : (p.take 2000).length ≤ 2000 := by rw [List.length_take]; omega
  have hPl := packL_length 9 3 (p.take 2000)
  have hB := Lib.hid hb
  clear hb
  go_enter Try.func6, Try.ntmps6
  go_wp2_with fail
  refine (known_any _).mono ?_
  rintro x w1 ⟨rfl, hq⟩
  go_wp2_with fail
  refine (cut_any _ _ _ (by omega) (by omega)).mono ?_
  rintro x w2 ⟨rfl, rfl⟩
  rw [show (2000 : Int).toNat = 2000 from rfl]
  generalize p.take 2000 = q at h1 hPl
  have hE2 : 24 + q.length ≤ (packL 9 3 q).length := by unfold endsN at hPl; omega
  have hE3 : (packL 9 3 q).length ≤ 24 + q.length + 63 := by unfold endsN at hPl; omega
  go_wp2_with fail
  refine (Pack_ok 9 3 q _ (by omega) (by decide)).mono ?_
  rintro x w2 ⟨rfl, hq2⟩
  have hq := hq.trans hq2
  clear hq2 hPl
  have hflip := fun i x => flip_bad 9 3 q i x (by decide) (by omega)
  obtain ⟨P, hP⟩ : ∃ P, P = packL 9 3 q := ⟨_, rfl⟩
  rw [← hP] at hE2 hE3 hflip ⊢
  clear hP
  have HF := Lib.hid hflip
  clear hflip
  have hd : decide ((P.length : Int) < 24 + q.length) = false := by simp; omega
  obtain ⟨N, hN⟩ : ∃ N : Nat, N = 8 * (24 + q.length) := ⟨_, rfl⟩
  have hN1 : (8 * (24 + (q.length : Int))) = (N : Int) := by omega
  have hN2 : 192 ≤ N := by omega
  have hN3 : N ≤ 16192 := by omega
  have HN := Lib.hid hN
  clear hN
  obtain ⟨c, hc, hcb⟩ : ∃ c : Nat, (c : Int) = (if b < 0 then -(b + 1) else b) ∧ c ≤ 9223372036854775807 := by
    have := hB.out
    refine ⟨(if b < 0 then -(b + 1) else b).toNat, ?_, ?_⟩ <;> split <;> omega
  obtain ⟨r, hr⟩ : ∃ r : Nat, r = c % N := ⟨_, rfl⟩
  have hr1 : ((c : Int) % (N : Int)) = (r : Int) := by rw [hr]; exact (Int.natCast_emod c N).symm
  have hr2 : r < N := by rw [hr]; exact Nat.mod_lt _ (by omega)
  have HR := Lib.hid hr
  clear hr
  obtain ⟨cap, O, hcv, hcap, hcell, hfz⟩ := bytes_open w2 P
  have hq3 : Q w (w2.drew.alloc O) := hq.drew.alloc O
  have hg : w.heap.size ≤ w2.heap.size := hq.size
  have hwr : ∃ j : Nat, Hid (j < N ∧ (j / 8 = 0 ∨ 8 ≤ j / 8)) ∧ ((8 ≤ r ∧ r < 64 ∧ (r : Int) % 8 = (j : Int)) ∨ (r < 8 ∧ j = r) ∨ (64 ≤ r ∧ j = r)) := by
    by_cases hm : 8 ≤ r ∧ r < 64
    · exact ⟨r % 8, ⟨by omega, .inl (by omega)⟩, .inl ⟨hm.1, hm.2, by omega⟩⟩
    · exact ⟨r, ⟨hr2, by omega⟩, by omega⟩
  obtain ⟨j, HJ, hj⟩ := hwr
  have hw : (b < 0 ∧ wrap64 (-wrap64 (b + 1)) = (c : Int)) ∨ (0 ≤ b ∧ b = (c : Int)) := by
    have := hB.out
    by_cases hneg : b < 0
    · rw [if_pos hneg] at hc
      exact .inl ⟨hneg, by rw [hc]; unfold wrap64; omega⟩
    · rw [if_neg hneg] at hc
      exact .inr ⟨by omega, hc.symm⟩
  clear hc
  rcases hw with ⟨hneg, hw⟩ | ⟨hneg, rfl⟩
  all_goals rcases hj with ⟨ha, hb, hj⟩ | ⟨ha, rfl⟩ | ⟨ha, rfl⟩
  all_goals
    clear hB
    go_wp2_with fail
    try rw [hj]
    have HN' := HN.out
    have HJ' := HJ.out
    have hj8 : j / 8 < P.length := by omega
    have hc1 : (w2.alloc O).cell? ⟨w2.heap.size, j / 8, none⟩ = some (.int .u8 ((gB P (j / 8)).toNat : Int)) := hcell (j / 8) hj8
    have hf1 : (w2.alloc O).frozen? ⟨w2.heap.size, j / 8, none⟩ = false := hfz (j / 8) hj8
    have hx1 : bits .xor .u8 ((gB P (j / 8)).toNat : Int) ((2 : Int) ^ (j % 8) % 256) = ((gB P (j / 8) ^^^ bitB j).toNat : Int) := by rw [bitB_int, xor8]
    have hj0 : 0 ≤ (j : Int) := by omega
    have HX := Lib.hid hx1
    have hq4 : Q w ((((w2.alloc O).setCell ⟨w2.heap.size, j / 8, none⟩ (.int .u8 (bits .xor .u8 ((gB P (j / 8)).toNat : Int) ((2 : Int) ^ (j % 8) % 256)))).drew).drew) :=
      (((hq.alloc O).setNew hg _).drew).drew
    have hcb := flip_back w2.heap.size (w2.alloc O) P cap (j / 8) (bitB j) _ hj8 hx1 hcell
      ((((w2.alloc O).setCell ⟨w2.heap.size, j / 8, none⟩ (.int .u8 (bits .xor .u8 ((gB P (j / 8)).toNat : Int) ((2 : Int) ^ (j % 8) % 256)))).drew).drew) (fun a => rfl)
    have hfb := HF.out (j / 8) (bitB j) (by omega) (by omega) (bitB_ne j)
    have hfl : (flipB P (j / 8) (bitB j)).length ≤ 281474976710656 := by rw [length_flip]; omega
    have HC := Lib.hid (And.intro hfb hfl)
    clear hfb hfl hx1 HN' HJ' ha
    try clear hj
    go_region
    go_wp2_with fail
    refine (Unpack_bad (flipB P (j / 8) (bitB j)) 9 3 _ HC.out.2 HC.out.1).mono ?_
    rintro x w5 ⟨ev, rfl, he, hq5⟩
    obtain ⟨h0, _⟩ | ⟨_, bb, rfl, hf⟩ := he
    · exact absurd h0 (by decide)
    go_wp2_with fail
    go_ret
    exact ⟨rfl, hq4.trans hq5⟩
end Go.Proofs.Ytcfomkbmmpogdaa
