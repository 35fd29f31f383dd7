/- The two sums: how they begin. -/
import Derived.Test.YteadblkkbbhpjaaHsD
import Derived.Test.YteadblkkbbhpjaaShB
import Derived.Test.YteadblkkbbhpjaaMdB
set_option linter.unusedVariables false
namespace Go.Proofs.Yteadblkkbbhpjaa
open Go Go.RowKit
def of8 (l : List B32) : St8 := ⟨gW l 0, gW l 1, gW l 2, gW l 3, gW l 4, gW l 5, gW l 6, gW l 7⟩
def of4 (l : List B32) : St4 := ⟨gW l 0, gW l 1, gW l 2, gW l 3⟩
theorem of8_list (l : List B32) (h : l.length = 8) : (of8 l).list = l := by
  match l, h with
  | [a, b, c, d, e, f, g, i], _ => rfl
theorem of4_list (l : List B32) (h : l.length = 4) : (of4 l).list = l := by
  match l, h with
  | [a, b, c, d], _ => rfl
def alg256 : Alg where
  n := 8
  fn := 71
  hi := true
  start := start256.list
  mix := fun s b => (mix256L (of8 s) b).list
  n0 := by decide
  n8 := by decide
  len0 := rfl
  len := fun _ _ _ => rfl
  enters := fun args w => by kernel_rfl
  call := fun sb cap s b w hs hb hst => by
    have h := mix256_any sb cap (of8 s) b w hb (by rw [of8_list s hs]; exact hst)
    exact h
def alg5 : Alg where
  n := 4
  fn := 75
  hi := false
  start := start5.list
  mix := fun s b => (mix5L (of4 s) b).list
  n0 := by decide
  n8 := by decide
  len0 := rfl
  len := fun _ _ _ => rfl
  enters := fun args w => by kernel_rfl
  call := fun sb cap s b w hs hb hst => by
    have h := mix5_any sb cap (of4 s) b w hb (by rw [of4_list s hs]; exact hst)
    exact h
def sha (l : List UInt8) : List UInt8 := sumA alg256 l
def md (l : List UInt8) : List UInt8 := sumA alg5 l
theorem sha_abc : sha [97, 98, 99] = [0xba, 0x78, 0x16, 0xbf, 0x8f, 0x01, 0xcf, 0xea, 0x41, 0x41, 0x40, 0xde, 0x5d, 0xae, 0x22, 0x23, 0xb0, 0x03, 0x61, 0xa3, 0x96, 0x17, 0x7a, 0x9c, 0xb4, 0x10, 0xff, 0x61, 0xf2, 0x00, 0x15, 0xad] := by decide +kernel
theorem md_abc : md [97, 98, 99] = [0x90, 0x01, 0x50, 0x98, 0x3c, 0xd2, 0x4f, 0xb0, 0xd6, 0x96, 0x3f, 0x7d, 0x28, 0xe1, 0x7f, 0x72] := by decide +kernel
theorem st_row {w : World} {g : Nat} {l : List B32} {e : TypeId} (h : w.heap[g]? = some (.cells (arrM l) e (0, 0))) : StAt w g l := by
  intro i hi
  refine ⟨?_, frozen_of_row w g i _ _ h⟩
  rw [cell_of_row _ _ _ _ _ _ h]
  simp [arrM, u32V, gW, List.getD, hi]
def NewPost (A : Alg) (cap : Nat) (w : World) (e : Ending) (w' : World) : Prop :=
  ∃ hb sb, e = .returned (.pointer (some ⟨hb, 0, none⟩)) ∧ w.heap.size ≤ hb ∧ w.heap.size ≤ sb ∧ ToldAt w' A hb sb cap [] ∧ Q w w'
set_option maxRecDepth 100000 in
set_option maxHeartbeats 4000000 in
theorem new256_any (w : World) : Calls Try.prog 52 #[] w (NewPost alg256 8 w) := by
  go_enter Try.func52, Try.ntmps52
  go_wp2_with fail
  go_ret
  refine ⟨w.heap.size + 1, w.heap.size, rfl, by omega, by omega, ?_, ((Q.refl w).alloc _).alloc _⟩
  refine ⟨⟨List.replicate 64 0, ⟨?_, by simp⟩, rfl⟩, ?_, by omega⟩
  · rw [heap_alloc2_new]
    exact congrArg (fun x => some (Obj.cells x 107 (0, 0))) (by kernel_rfl)
  · exact st_row (l := start256.list) (heap_alloc2_old w (.cells (arrM start256.list) 81) _)
set_option maxRecDepth 100000 in
set_option maxHeartbeats 4000000 in
theorem new5_any (w : World) : Calls Try.prog 57 #[] w (NewPost alg5 4 w) := by
  go_enter Try.func57, Try.ntmps57
  go_wp2_with fail
  go_ret
  refine ⟨w.heap.size + 1, w.heap.size, rfl, by omega, by omega, ?_, ((Q.refl w).alloc _).alloc _⟩
  refine ⟨⟨List.replicate 64 0, ⟨?_, by simp⟩, rfl⟩, ?_, by omega⟩
  · rw [heap_alloc2_new]
    exact congrArg (fun x => some (Obj.cells x 107 (0, 0))) (by kernel_rfl)
  · exact st_row (l := start5.list) (heap_alloc2_old w (.cells (arrM start5.list) 81) _)

set_option maxHeartbeats 400000 in
theorem Sum256_any (l : List UInt8) (w : World) (hl : l.length ≤ 9223372036854775807) :
    Calls Try.prog 26 #[.string ⟨l.toArray⟩] w fun e w' => e = .returned (.string ⟨(sha l).toArray⟩) ∧ Q w w' := by
  go_enter Try.func26, Try.ntmps26
  go_wp2_with fail
  with_reducible refine (new256_any _).mono ?_
  rintro e w1 ⟨hb, sb, rfl, h1, h2, hT, hq⟩
  have HT := Lib.hid hT
  have HQ := Lib.hid hq
  clear hT hq
  go_wp2_with fail
  with_reducible refine (write_any alg256 hb sb 8 [] l _ HT.out hl).mono ?_
  rintro e w2 ⟨rfl, hT, hg⟩
  have HT := Lib.hid hT
  have HQ := Lib.hid (hg.toQ HQ.out (by intro k hk; simp at hk; omega))
  clear hT hg
  go_wp2_with fail
  with_reducible refine (sum_any alg256 hb sb 8 _ _ HT.out).mono ?_
  rintro e w3 ⟨rfl, hq⟩
  go_wp2_with fail
  go_ret
  exact ⟨rfl, HQ.out.trans hq⟩
set_option maxHeartbeats 400000 in
theorem Sum5_any (l : List UInt8) (w : World) (hl : l.length ≤ 9223372036854775807) :
    Calls Try.prog 28 #[.string ⟨l.toArray⟩] w fun e w' => e = .returned (.string ⟨(md l).toArray⟩) ∧ Q w w' := by
  go_enter Try.func28, Try.ntmps28
  go_wp2_with fail
  with_reducible refine (new5_any _).mono ?_
  rintro e w1 ⟨hb, sb, rfl, h1, h2, hT, hq⟩
  have HT := Lib.hid hT
  have HQ := Lib.hid hq
  clear hT hq
  go_wp2_with fail
  with_reducible refine (write_any alg5 hb sb 4 [] l _ HT.out hl).mono ?_
  rintro e w2 ⟨rfl, hT, hg⟩
  have HT := Lib.hid hT
  have HQ := Lib.hid (hg.toQ HQ.out (by intro k hk; simp at hk; omega))
  clear hT hg
  go_wp2_with fail
  with_reducible refine (sum_any alg5 hb sb 4 _ _ HT.out).mono ?_
  rintro e w3 ⟨rfl, hq⟩
  go_wp2_with fail
  go_ret
  exact ⟨rfl, HQ.out.trans hq⟩
end Go.Proofs.Yteadblkkbbhpjaa
