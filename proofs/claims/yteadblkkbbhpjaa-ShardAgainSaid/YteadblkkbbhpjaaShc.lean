/- shard: the blocks of a text. -/
import Derived.Test.YteadblkkbbhpjaaLpC
import Derived.Test.YteadblkkbbhpjaaByt
import Derived.Shelf.Abstract
import Derived.Shelf.RegionOpen
import Derived.WalkKit
import Derived.OwnWalkIn
import Derived.TacticsInMore
import Derived.LoopNIn
import Derived.LoopIn
set_option linter.unusedVariables false
namespace Go.Proofs.Yteadblkkbbhpjaa
open Go Go.RowKit Go.Shelf
attribute [local go_sem] Oper.semAt_some
theorem wpListIn_load_row {F : Fence} {n : Nat} {P : Program} {ops : Array Oper} {rest : List Oper} {o : Oper} {a : Act} {w : World} {Q : Exit → Act → World → Prop} (hgd : o.guard = none) (ty : TypeId) (x : Operand) (ho : o.op = .load ty x)
    (g : Nat) (hx : a.eval x = .pointer (some ⟨g, 0, none⟩)) (t : TypeId) (cs : Array Value) (fr : Nat × Nat) (d : TypeDesc) (hg : w.heap[g]? = some (.cells cs t fr))
    (hu : P.underlying ty = some d) (hd : (match d with | .struct _ | .array _ _ => true | _ => false) = true) (hi : (P.info? ty).map (·.size) = some cs.size)
    (h : wpListIn F n P ops Q rest (a.put o.dst (.agg cs)) w) : wpListIn F n P ops Q (o :: rest) a w :=
  wpListIn_plain hgd fun K hK => by
    refine ⟨fun f hf => by simp [Oper.about, ho] at hf, ?_⟩
    rw [Oper.semAt_eq _ _ _ (fun c => by simp [ho])]
    unfold execOp
    simp only [ho, hx, Instr.loadAt, Instr.sureAddr, Sem.run_bind, Sem.run_pure, Result.andThen_ok, run_loadVar_row w g t ty cs fr d hg hu hd hi]
    exact hK _ _ h
def nB (n : Nat) : Nat := (n + 199) / 200
def aK (n k : Nat) : Nat := min n (200 * k)
def sK (n k : Nat) : Nat := 36 + aK n k + 32 * k
def zK (n k : Nat) : Nat := min 200 (n - aK n k)
theorem infoBlk : (Try.prog.info? 64).map (·.size) = some 3 := by kernel_rfl
theorem aK_0 (n : Nat) : aK n 0 = 0 := by simp [aK]
theorem sK_0 (n : Nat) : sK n 0 = 36 := by simp [sK, aK]
theorem aK_lt (n k : Nat) (h : k < nB n) : aK n k = 200 * k ∧ 200 * k < n := by unfold nB at h; unfold aK; omega
theorem aK_s (n k : Nat) (h : k < nB n) : aK n (k + 1) = aK n k + zK n k := by have := aK_lt n k h; unfold zK; unfold aK at *; omega
theorem aK_e (n : Nat) : aK n (nB n) = n := by unfold aK nB; omega
theorem sK_s (n k : Nat) (h : k < nB n) : sK n (k + 1) = sK n k + zK n k + 32 := by unfold sK; rw [aK_s n k h]; omega
theorem sK_bd (n k : Nat) (hn : n ≤ 10000) (h : k < nB n) : 0 ≤ (sK n k : Int) ∧ (sK n k : Int) ≤ 20000 := by unfold sK aK; unfold nB at h; omega
theorem range_snoc (k : Nat) : List.range k ++ [k] = List.range (k + 1) := List.range_succ.symm
def BlkAt (w : World) (B : Nat) (a s z : Int) : Prop := w.heap[B]? = some (.cells #[.int .i64 a, .int .i64 s, .int .i64 z] 64 (0, 0))
theorem BlkAt.c0 {w : World} {B : Nat} {a s z : Int} (h : BlkAt w B a s z) : w.cell? ⟨B, 0, none⟩ = some (.int .i64 a) := by rw [cell_of_row _ _ _ _ _ _ h]; rfl
theorem BlkAt.c1 {w : World} {B : Nat} {a s z : Int} (h : BlkAt w B a s z) : w.cell? ⟨B, 1, none⟩ = some (.int .i64 s) := by rw [cell_of_row _ _ _ _ _ _ h]; rfl
theorem BlkAt.c2 {w : World} {B : Nat} {a s z : Int} (h : BlkAt w B a s z) : w.cell? ⟨B, 2, none⟩ = some (.int .i64 z) := by rw [cell_of_row _ _ _ _ _ _ h]; rfl
theorem BlkAt.fz {w : World} {B : Nat} {a s z : Int} (h : BlkAt w B a s z) (i : Nat) : w.frozen? ⟨B, i, none⟩ = false := frozen_of_row w B i _ _ h
theorem grownBy_setCell_row (W : World) (B i : Nat) (v : Value) : W.grownBy (W.setCell ⟨B, i, none⟩ v) (some B) :=
  ⟨rfl, rfl, rfl, by simp [World.setCell], fun k _ hk => heap_setCell_other W ⟨B, i, none⟩ k v (fun e => hk (by rw [e]))⟩
theorem nr_of {w : World} {B : Nat} {cs : Array Value} {t : TypeId} {fr : Nat × Nat} (h : w.heap[B]? = some (.cells cs t fr)) (ht : t ≠ 5) : ∀ r o, some B = some r → w.heap[r]? = some o → NotRow o :=
  fun r o e ho => by cases e; rw [h] at ho; cases ho; intro c fz hc; cases hc; exact ht rfl
def BoxI (w : World) (b : Nat) (n : Int) : Prop := w.heap[b]? = some (.cells #[.int .i64 n] 3 (0, 0))
theorem BoxI.c {w : World} {b : Nat} {n : Int} (h : BoxI w b n) : w.cell? ⟨b, 0, none⟩ = some (.int .i64 n) := by rw [cell_of_row _ _ _ _ _ _ h]; rfl
def encB (n k : Nat) : Array Value := #[.int .i64 (k : Int), .agg #[.int .i64 (aK n k : Int), .int .i64 (sK n k : Int), .int .i64 (zK n k : Int)]]
set_option maxHeartbeats 2000000 in
theorem blocks_seq (n : Nat) (hn : n ≤ 10000) (b0 : Nat) : SeqC Try.prog 65 #[.pointer (some ⟨b0, 0, none⟩)] (encB n) b0 (fun xs => xs = List.range (nB n)) (fun pre => ∃ k, k ≤ nB n ∧ 0 < k ∧ pre = List.range k) (fun pre x => pre = List.range x ∧ x < nB n) (fun W => BoxI W b0 (n : Int)) := by
  intro m l J Jx W hPre hb0 hJ hJx hY h0
  refine callsIn_of_wp Try.func65 rfl trivial ?_ rfl
  simp only [Try.ntmps65, List.size_toArray, List.length_cons, List.length_nil, Nat.reduceAdd, Nat.reduceSub, Array.replicate_succ, Array.replicate_zero, List.push_toArray, List.append_toArray, List.nil_append, List.cons_append]
  gi_wp2
  have hB0 : BlkAt (W.alloc (.cells #[.int .i64 0, .int .i64 36, .int .i64 0] 64)) W.heap.size 0 36 0 := World.alloc_heap_new W _
  have hx0 : BoxI (W.alloc (.cells #[.int .i64 0, .int .i64 36, .int .i64 0] 64)) b0 (n : Int) := (Below.heap_alloc _ _ _ hb0).trans hPre
  have hJ0 : J [] (W.alloc (.cells #[.int .i64 0, .int .i64 36, .int .i64 0] 64)) := hJ _ _ _ none h0 (World.grownBy_alloc W _ none) (fun r e => by cases e) (fun r o e => by cases e)
  have hs0 : W.heap.size < (W.alloc (.cells #[.int .i64 0, .int .i64 36, .int .i64 0] 64)).heap.size := by simp
  generalize W.alloc (.cells #[.int .i64 0, .int .i64 36, .int .i64 0] 64) = W1 at *
  generalize hBN : W.heap.size = B at *
  gi_loopw [4] (fun p wr => ∃ (k : Nat) (z : Int), p = .int .i64 (k : Int) ∧ k ≤ nB n ∧ BlkAt wr B (aK n k : Int) (sK n k : Int) z ∧ BoxI wr b0 (n : Int) ∧ J (List.range k) wr ∧ B < wr.heap.size)
    (fun p wr => nB n - (intOf p).toNat)
  case atStart =>
    exact ⟨0, 0, rfl, by omega, by rw [aK_0, sK_0]; exact hB0, hx0, hJ0, hs0⟩
  case round =>
    obtain ⟨k, z, rfl, hk, hb, hx, hj, hs⟩ := hrel
    rcases Nat.lt_or_eq_of_le hk with hlt | rfl
    · have ha := aK_lt n k hlt
      have hb0' := hb.c0
      have hb1' := hb.c1
      have hb2' := hb.c2
      have hf0 := hb.fz 0
      have hf1 := hb.fz 1
      have hf2 := hb.fz 2
      have hxc := hx.c
      have hak : (aK n k : Int) = 200 * (k : Int) := by omega
      have hs36 := sK_bd n k hn hlt
      have g1 : decide ((aK n k : Int) < (n : Int)) = true := by simp; omega
      have hy2 : ∀ v : Int, J (List.range k) (wr.setCell ⟨B, 2, none⟩ (.int .i64 v)) := fun v => hJ _ _ _ (some B) hj (grownBy_setCell_row wr B 2 _) (fun r e => by cases e; rfl) (nr_of hb (by decide))
      have hnr : ∀ v : Int, ∀ k ∈ [b0, B], ∀ o, (wr.setCell ⟨B, 2, none⟩ (.int .i64 v)).heap[k]? = some o → NotRow o := by
        intro v k hk' o ho
        simp only [List.mem_cons, List.not_mem_nil, or_false] at hk'
        rcases hk' with rfl | rfl
        · rw [heap_setCell_other wr ⟨B, 2, none⟩ _ _ (by simp; omega)] at ho; rw [hx] at ho; cases ho; intro c fz h; cases h
        · rw [heap_setCell_any wr _ 2 _ _ _ _ hb] at ho; cases ho; intro c fz h; cases h
      have hrw : ∀ v : Int, BlkAt (wr.setCell ⟨B, 2, none⟩ (.int .i64 v)) B (aK n k : Int) (sK n k : Int) v := fun v => by unfold BlkAt; rw [heap_setCell_any wr B 2 _ _ _ _ hb]; rfl
      by_cases hz : 200 ≤ n - 200 * k
      · have hzk : zK n k = 200 := by unfold zK; rw [ha.1]; omega
        have e : encB n k = #[.int .i64 (k : Int), .agg #[.int .i64 (200 * (k : Int)), .int .i64 (sK n k : Int), .int .i64 200]] := by unfold encB; rw [hak, hzk]; rfl
        have hz' : (200 : Int) ≤ (n : Int) - 200 * (k : Int) := by omega
        obtain ⟨fn, tmps, assign, body, hy, hR⟩ := hY (List.range k) k _ (hy2 200) ⟨rfl, hlt⟩ (Nat.lt_of_lt_of_le hs (grownBy_setCell_row wr B 2 _).size) (hnr _)
        rw [e] at hy
        gi_wp2
        refine hR.mono ?_
        rintro e W3 (⟨rfl, hJ3, hk3⟩ | ⟨rfl, hJx3⟩)
        · have hb3 : BlkAt W3 B (200 * (k : Int)) (sK n k : Int) 200 := by
            have := hrw 200
            rw [hak] at this
            exact (hk3.same B (by simp)).trans this
          have hx3 : BoxI W3 b0 (n : Int) := (hk3.same b0 (by simp)).trans ((heap_setCell_other wr ⟨B, 2, none⟩ b0 _ (by simp; omega)).trans hx)
          have hs3 : B < W3.heap.size := (Array.getElem?_eq_some_iff.1 hb3).1
          have c0 := hb3.c0
          have c1 := hb3.c1
          have c2 := hb3.c2
          have f0 := hb3.fz 0
          have f1 := hb3.fz 1
          have f2 := hb3.fz 2
          clear hb hb0' hb1' hb2' hf0 hf1 hf2 hy2 hrw hy hR hj
          gi_wp2
          go_roundw
          case rel =>
            have hsz : 0 ≤ (zK n k : Int) := by omega
            refine ⟨k + 1, 200, rfl, hlt, ?_, ?_, ?_, ?_⟩
            · have h1 := aK_s n k hlt
              have h2 := sK_s n k hlt
              rw [show (aK n (k + 1) : Int) = 200 * (k : Int) + 200 by omega, show (sK n (k + 1) : Int) = (sK n k : Int) + 232 by omega]
              unfold BlkAt
              rw [heap_setCell_any _ B 1 _ _ _ _ (heap_setCell_any W3 B 0 _ _ _ _ hb3)]
              rfl
            · exact (heap_setCell_other _ ⟨B, 1, none⟩ b0 _ (by simp; omega)).trans ((heap_setCell_other W3 ⟨B, 0, none⟩ b0 _ (by simp; omega)).trans hx3)
            · rw [← range_snoc]
              exact hJ _ _ _ (some B) (hJ _ _ _ (some B) hJ3 (grownBy_setCell_row W3 B 0 _) (fun r e => by cases e; rfl) (nr_of hb3 (by decide))) (grownBy_setCell_row _ B 1 _) (fun r e => by cases e; rfl) (nr_of (heap_setCell_any W3 B 0 _ _ _ _ hb3) (by decide))
            · exact Nat.lt_of_lt_of_le hs3 (Nat.le_trans (grownBy_setCell_row W3 B 0 _).size (grownBy_setCell_row _ B 1 _).size)
          case measure => simp [intOf]; omega
        · gi_wp2
          refine bodyPost_ret (results_none rfl _ _ _) rfl ?_
          exact ⟨⟨_, rfl⟩, .inr ⟨_, ⟨k + 1, hlt, by omega, rfl⟩, by rw [← range_snoc]; exact hJx3⟩⟩
      · have hzk : (zK n k : Int) = (n : Int) - 200 * (k : Int) := by unfold zK; rw [ha.1]; omega
        have e : encB n k = #[.int .i64 (k : Int), .agg #[.int .i64 (200 * (k : Int)), .int .i64 (sK n k : Int), .int .i64 ((n : Int) - 200 * (k : Int))]] := by unfold encB; rw [hak, hzk]
        have hz' : (n : Int) - 200 * (k : Int) < 200 := by omega
        obtain ⟨fn, tmps, assign, body, hy, hR⟩ := hY (List.range k) k _ (hy2 ((n : Int) - 200 * (k : Int))) ⟨rfl, hlt⟩ (Nat.lt_of_lt_of_le hs (grownBy_setCell_row wr B 2 _).size) (hnr _)
        rw [e] at hy
        gi_wp2
        refine hR.mono ?_
        rintro e W3 (⟨rfl, hJ3, hk3⟩ | ⟨rfl, hJx3⟩)
        · have hb3 : BlkAt W3 B (200 * (k : Int)) (sK n k : Int) ((n : Int) - 200 * (k : Int)) := by
            have := hrw ((n : Int) - 200 * (k : Int))
            rw [hak] at this
            exact (hk3.same B (by simp)).trans this
          have hx3 : BoxI W3 b0 (n : Int) := (hk3.same b0 (by simp)).trans ((heap_setCell_other wr ⟨B, 2, none⟩ b0 _ (by simp; omega)).trans hx)
          have hs3 : B < W3.heap.size := (Array.getElem?_eq_some_iff.1 hb3).1
          have c0 := hb3.c0
          have c1 := hb3.c1
          have c2 := hb3.c2
          have f0 := hb3.fz 0
          have f1 := hb3.fz 1
          have f2 := hb3.fz 2
          clear hb hb0' hb1' hb2' hf0 hf1 hf2 hy2 hrw hy hR hj
          gi_wp2
          go_roundw
          case rel =>
            have hsz : 0 ≤ (zK n k : Int) := by omega
            refine ⟨k + 1, ((n : Int) - 200 * (k : Int)), rfl, hlt, ?_, ?_, ?_, ?_⟩
            · have h1 := aK_s n k hlt
              have h2 := sK_s n k hlt
              rw [show (aK n (k + 1) : Int) = 200 * (k : Int) + ((n : Int) - 200 * (k : Int)) by omega, show (sK n (k + 1) : Int) = (sK n k : Int) + ((n : Int) - 200 * (k : Int) + 32) by omega]
              unfold BlkAt
              rw [heap_setCell_any _ B 1 _ _ _ _ (heap_setCell_any W3 B 0 _ _ _ _ hb3)]
              rfl
            · exact (heap_setCell_other _ ⟨B, 1, none⟩ b0 _ (by simp; omega)).trans ((heap_setCell_other W3 ⟨B, 0, none⟩ b0 _ (by simp; omega)).trans hx3)
            · rw [← range_snoc]
              exact hJ _ _ _ (some B) (hJ _ _ _ (some B) hJ3 (grownBy_setCell_row W3 B 0 _) (fun r e => by cases e; rfl) (nr_of hb3 (by decide))) (grownBy_setCell_row _ B 1 _) (fun r e => by cases e; rfl) (nr_of (heap_setCell_any W3 B 0 _ _ _ _ hb3) (by decide))
            · exact Nat.lt_of_lt_of_le hs3 (Nat.le_trans (grownBy_setCell_row W3 B 0 _).size (grownBy_setCell_row _ B 1 _).size)
          case measure => simp [intOf]; omega
        · gi_wp2
          refine bodyPost_ret (results_none rfl _ _ _) rfl ?_
          exact ⟨⟨_, rfl⟩, .inr ⟨_, ⟨k + 1, hlt, by omega, rfl⟩, by rw [← range_snoc]; exact hJx3⟩⟩
    · have hb0' := hb.c0
      rw [aK_e] at hb0'
      have hxc := hx.c
      have g1 : decide ((n : Int) < (n : Int)) = false := by simp
      gi_wp2
      refine bodyPost_end (results_none rfl _ _ _) rfl ?_
      exact ⟨⟨_, rfl⟩, .inl ⟨_, rfl, hj⟩⟩
end Go.Proofs.Yteadblkkbbhpjaa
