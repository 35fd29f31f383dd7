/- The reference's constants; its Sum256. -/
import Derived.Test.YteadblkkbbhpjaaRfB
import Derived.Deep.DeepCutAuto
set_option linter.unusedVariables false
namespace Go.Proofs.Yteadblkkbbhpjaa
open Go Go.RowKit
theorem words_built : Try.prog.built 85 [(0, .agg (arrM start256.list)), (1, .agg (arrM k256))] = some (arrM wordsA) := by kernel_rfl
theorem infoW : (Try.prog.info? 85).map (·.size) = some 72 := by kernel_rfl
theorem row_new (w : World) (cs ds : Array Value) (t : TypeId) : ((w.alloc (.cells cs t)).setRow w.heap.size ds).heap[w.heap.size]? = some (.cells ds t (0, 0)) := by
  simp only [World.setRow, Array.getElem?_modify, if_true]
  rw [heap_alloc_new]
  rfl
theorem build_at {P : Program} {ops : Array Oper} {rest : List Oper} {o : Oper} {a : Act} {w : World} {R : Exit → Act → World → Prop} (hg : o.guard = none) (t : TypeId) (parts : Array (Nat × Operand)) (ho : o.op = .build t parts)
    (cps : List (Nat × Value)) (he : (parts.map fun (i, x) => (i, a.eval x)).toList = cps) (cs : Array Value) (hf : P.built t cps = some cs) (h : wpList P ops R rest (a.put o.dst (.agg cs)) w) : wpList P ops R (o :: rest) a w :=
  wpList_build hg t parts ho (by rw [he, hf]; rfl) (by rw [he, hf]; exact h)
set_option maxRecDepth 100000 in
set_option maxHeartbeats 4000000 in
theorem words_any (w : World) : Calls Try.prog 55 #[] w fun e w' => e = .returned (.agg (arrM wordsA)) ∧ Q w w' := by
  go_enter Try.func55, Try.ntmps55
  go_upto_region 1 with (fail)
  iterate 4 go_step
  refine build_const rfl 83 (partsOf k256) (arrM k256) (some _) rfl (by kernel_rfl) k256_built ?_
  refine build_at rfl 85 #[(0, .tmp 1), (1, .tmp 2)] (by rfl) [(0, .agg (arrM start256.list)), (1, .agg (arrM k256))] (by simp only [List.map_toArray, List.map_cons, List.map_nil]; rfl) _ words_built ?_
  refine wpList_store_row rfl 85 (.tmp 0) (.tmp 3) (by rfl) w.heap.size (arrM wordsA) (by rfl) (by rfl) 85 _ (heap_alloc_new w _) (by rw [arrM_size]; exact infoW) rfl (arr_all _) ?_
  have hr := row_new w (Try.zeroCells85) (arrM wordsA) 85
  have hq := Q.setRow ((Q.refl w).alloc (.cells Try.zeroCells85 85)) (Nat.le_refl _) (arrM wordsA)
  generalize (w.alloc (.cells Try.zeroCells85 85)).setRow w.heap.size (arrM wordsA) = w1 at *
  have HR := Lib.hid hr
  have HQ := Lib.hid hq
  clear hr hq
  go_wp2_with fail
  refine bodyPost_ret (v := .agg (arrM wordsA)) ?_ rfl ⟨rfl, HQ.out⟩
  exact results_cell_row rfl _ _ w.heap.size 85 _ (0, 0) _ rfl HR.out Try.underlying85 rfl (by rw [arrM_size]; exact infoW)
theorem w5_start (w : World) (cs : Array Value) : ∃ w3, w3 = (w.alloc (.cells cs 85)).setRow w.heap.size (arrM wordsA) ∧ WordsAt w3 w.heap.size ∧ Q w w3 :=
  ⟨_, rfl, row_new w cs _ _, Q.setRow ((Q.refl w).alloc _) (Nat.le_refl _) _⟩
set_option maxRecDepth 100000 in
set_option maxHeartbeats 4000000 in
theorem Sum256R_any (l : List UInt8) (w : World) (hl : l.length ≤ 140737488355500) :
    Calls Try.prog 27 #[.string ⟨l.toArray⟩] w fun e w' => e = .returned (.string ⟨(sha l).toArray⟩) ∧ Q w w' := by
  go_enter Try.func27, Try.ntmps27
  go_wp2_with fail
  with_reducible refine (words_any _).mono ?_
  rintro e w1 ⟨rfl, hq1⟩
  have HQ1 := Lib.hid hq1
  clear hq1
  go_upto_region 2 with (refine wpList_store_row rfl 85 (.tmp 3) (.tmp 4) (by rfl) w1.heap.size (arrM wordsA) (by rfl) (by rfl) 85 _ (heap_alloc_new w1 _) (by rw [arrM_size]; exact infoW) rfl (arr_all _) ?_)
  obtain ⟨w3, hw3, hW3, hq3⟩ := w5_start w1 Try.zeroCells85
  rw [← hw3]
  clear hw3
  have HW3 := Lib.hid hW3
  have HQ3 := Lib.hid (HQ1.out.trans hq3)
  clear hW3 hq3
  iterate 4 go_step
  refine wpList_load_row rfl 85 (.tmp 3) rfl w1.heap.size (by rfl) _ _ _ _ HW3.out Try.underlying85 rfl (by rw [arrM_size]; exact infoW) ?_
  go_wp2_with fail
  with_reducible refine (sumR_any l _ hl).mono ?_
  rintro e w4 ⟨rfl, hq4⟩
  go_wp2_with fail
  go_ret
  exact ⟨rfl, HQ3.out.trans hq4⟩
end Go.Proofs.Yteadblkkbbhpjaa
