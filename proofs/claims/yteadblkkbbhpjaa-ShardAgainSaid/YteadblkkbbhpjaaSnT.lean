/- shard.Open: the blocks. -/
import Derived.Test.YteadblkkbbhpjaaSnS
set_option linter.unusedVariables false
namespace Go.Proofs.Yteadblkkbbhpjaa
open Go Go.RowKit Go.Shelf
attribute [local go_sem] Oper.semAt_some
theorem Fr.below {w0 w w' : World} {N0 B : Nat} {nm s : List UInt8} {r4 r5 : Value} (h : Fr w0 N0 nm s r4 r5 w) (hb : Below B w w') (hB : N0 + 1 + 1 + 1 < B) : Fr w0 N0 nm s r4 r5 w' :=
  ⟨h.n.below hb (by omega), h.s.below hb (by omega), h.t.below hb (by omega), h.e.below hb (by omega), h.q.below (Below.mono hb (by have := h.sz; omega)), h.sz⟩
theorem Fr.kept {w0 w w' : World} {N0 B c : Nat} {nm s : List UInt8} {r4 r5 : Value} (h : Fr w0 N0 nm s r4 r5 w) (hk : Lib.OthersKept 5 (some c) w w') (hb : Below B w w') (hB : N0 + 1 + 1 + 1 < B) (hc : N0 + 1 + 1 + 1 < c) : Fr w0 N0 nm s r4 r5 w' := h.below hb hB
/-- The frame's last step: the loop's block is shut. -/
theorem Open_end {w0 W : World} {N0 D : Nat} {nm s t : List UInt8} {v : Value} {x a : Int} (h4 : BoxV W (N0 + 1 + 1) (.string ⟨t.toArray⟩) 9) (h5 : BoxV W (N0 + 1 + 1 + 1) v 24) (he : ErrIs (W.putObj D (.deferred none)) v x a) (ho : OpSays nm s t x a) (hq : Q w0 W) (hD : N0 + 1 + 1 + 1 < D) (hN : w0.heap.size = N0) :
    BoxV (W.putObj D (.deferred none)) (N0 + 1 + 1) (.string ⟨t.toArray⟩) 9 ∧ BoxV (W.putObj D (.deferred none)) (N0 + 1 + 1 + 1) v 24 ∧ OpenPost nm s w0 (.returned (.tuple #[.string ⟨t.toArray⟩, v])) (W.putObj D (.deferred none)) :=
  ⟨h4.grown (grownBy_putObj' W D _) (by simp; omega), h5.grown (grownBy_putObj' W D _) (by simp; omega), t, v, x, a, rfl, he, ho, Below.grown hq (grownBy_putObj' W D _) hq.size (fun k e => by cases e; omega)⟩
theorem shfault_at (c a : Int) (w : World) :
    Calls Try.prog 40 #[.int .i64 c, .int .i64 a] w fun e w' => (∃ b, w.heap.size ≤ b ∧ e = .returned (.iface 67 (.pointer (some ⟨b, 0, none⟩))) ∧ FaultAt w' b c a) ∧ Q w w' := by
  go_enter Try.func40, Try.ntmps40
  go_wp2
  go_ret
  exact ⟨⟨w.heap.size, Nat.le_refl _, rfl, (MapKept.heap_alloc w _).1⟩, (Q.refl _).alloc _⟩
set_option maxRecDepth 100000 in
set_option maxHeartbeats 4000000 in
theorem Open_e (nm s : List UInt8) (w : World) (hn : nm.length ≤ 220) (hs : s.length ≤ 140737488355328) (h36 : 36 ≤ s.length) (h3 : ¬ 10000 < r32 s) (h4 : (s.length : Int) = sizeI (r32 s)) (h5 : sub s 4 36 = sha (listL [nm, U32 (r32 s)]))  :
    Calls Try.prog 18 #[.string ⟨nm.toArray⟩, .string ⟨s.toArray⟩] w (OpenPost nm s w) := by
  have h4' := Lib.hid h4
  clear h4
  have hgood : Hid (OpHead nm s) := ⟨h36, by omega, h4'.out, (head_iff nm s h36).2 h5⟩
  have h5' := Lib.hid h5
  clear h5
  obtain ⟨n, hN⟩ : ∃ n : Nat, r32 s = n := ⟨(r32 s).toNat, by have := r32_bd' s; omega⟩
  have hnn : n ≤ 10000 := by omega
  have g1 : decide (220 < (nm.length : Int)) = false := by simp; omega
  have g2 : decide ((s.length : Int) < 36) = false := by simp; omega
  refine (callsIn_wide (n := 3)).1 ?_
  refine callsIn_of_wp_marks Try.func18 rfl trivial ?_ rfl
  simp only [Try.ntmps18, List.size_toArray, List.length_cons, List.length_nil, Nat.reduceAdd, Nat.reduceSub, Array.replicate_succ, Array.replicate_zero, List.push_toArray, List.append_toArray, List.nil_append, List.cons_append]
  refine wpIn_wide.2 ?_
  go_wp2_with fail
  obtain ⟨W1, hW1⟩ : ∃ W1, ((((w.alloc (.cells #[.string ⟨nm.toArray⟩] 9)).alloc (.cells #[.string ⟨s.toArray⟩] 9)).alloc (.cells #[.string ⟨#[]⟩] 9)).alloc (.cells #[.nilIface] 24)) = W1 := ⟨_, rfl⟩
  have hF := Fr.start w nm s W1 (by rw [← hW1]; exact Q.refl _)
  have hs1 : W1.heap.size = w.heap.size + 1 + 1 + 1 + 1 := by rw [← hW1]; simp
  rw [hW1]
  clear hW1
  have hx := BoxV.new W1 (.string ⟨(sub s 0 4).toArray⟩) 9
  rw [hs1] at hx
  have hF := hF.go ((Q.refl W1).alloc (.cells #[.string ⟨(sub s 0 4).toArray⟩] 9))
  generalize W1.alloc (.cells #[.string ⟨(sub s 0 4).toArray⟩] 9) = W2 at *
  generalize hN0 : w.heap.size = N0 at *
  have hr4 := r32_sub s (by omega)
  rw [hN] at hr4
  have hHU := Lib.hid (sub4_U32 s (by omega))
  have hl4 : (sub s 0 4).length = 4 := by rw [length_sub]; omega
  generalize sub s 0 4 = H at *
  have b0 := gB_lt H 0
  have b1 := gB_lt H 1
  have b2 := gB_lt H 2
  have b3 := gB_lt H 3
  have hr : bits .or .i64 (bits .or .i64 (bits .or .i64 (((gB H 0).toNat : Int) * 16777216) (((gB H 1).toNat : Int) * 65536)) (((gB H 2).toNat : Int) * 256)) ((gB H 3).toNat : Int) = r32 H :=
    or_four _ _ _ _ (by omega) (by omega) (by omega) (by omega) (by omega) (by omega) (by omega) (by omega)
  have ch : ∀ m : QW W2, m.val.cell? ⟨N0 + 1 + 1 + 1 + 1, 0, none⟩ = some (.string ⟨H.toArray⟩) := fun m => m.cell hx.c
  refine wp_region_q (by kernel_rfl) (by kernel_rfl) ?_
  repeat (go_big_quiet_step (fail))
  refine wpQuiet_nil ?_
  rintro w' ⟨m, hm⟩
  have hq2 : Q W2 w' := by rw [hm]; exact m.le
  have hF := hF.go hq2
  have hx := hx.q hq2
  clear hm m hq2 ch hr b0 b1 b2 b3
  have hb := r32_bd' s
  have cn : ∀ m : QW w', m.val.cell? ⟨N0, 0, none⟩ = some (.string ⟨nm.toArray⟩) := fun m => m.cell hF.n.c
  have cs : ∀ m : QW w', m.val.cell? ⟨N0 + 1, 0, none⟩ = some (.string ⟨s.toArray⟩) := fun m => m.cell hF.s.c
  have ch : ∀ m : QW w', m.val.cell? ⟨N0 + 1 + 1 + 1 + 1, 0, none⟩ = some (.string ⟨H.toArray⟩) := fun m => m.cell hx.c
  have g3 : decide (10000 < (n : Int)) = false := by simp; omega
  have g4 : ((s.length : Int) != sizeI n) = false := by rw [← hN]; simpa using h4'.out
  have g6 : (sub s 4 36 == sha (listL [nm, H])) = true := by rw [hHU.out]; simpa using h5'.out
  have hsz : 4 + szL [nm, H] ≤ 60000 := by rw [sz2, hl4]; omega
  go_wp2_with fail
  refine wp_region_noPanic ?_
  refine wp_plan [([0, 1, 2, 3, 4, 5], [6]), ([7, 8, 9, 10, 11, 12, 13], [14, 15, 16, 17])] (by kernel_rfl) (by kernel_rfl) (fun _ _ _ _ _ h => h) ?_
  unfold wpPlan
  simp only [List.map_cons, List.map_nil, Array.getD_eq_getD_getElem?, List.getElem?_toArray, List.getElem?_cons_succ, List.getElem?_cons_zero, Option.getD_some]
  (repeat (go_big_quiet_step (fail)))
  refine wpQuiet_nil ?_
  unfold wpListK
  intro K hK
  go_wp2_with (go_at_call 16; refine (Size_any _ _).mono ?_; rintro e w'' ⟨rfl, rfl⟩)
  refine hK.out _ _ ⟨⟨w'.drew, (Q.refl w').drew⟩, rfl⟩ ?_
  clear hK K
  unfold wpListK wpPlan
  simp only [List.map_cons, List.map_nil, Array.getD_eq_getD_getElem?, List.getElem?_toArray, List.getElem?_cons_succ, List.getElem?_cons_zero, Option.getD_some]
  (repeat (go_big_quiet_step (fail)))
  refine wpQuiet_nil ?_
  unfold wpListK
  intro K hK
  go_wp2_with fail
  refine hK.out _ _ ⟨⟨_, (Q.refl w').drew.alloc _⟩, rfl⟩ ?_
  clear hK K
  unfold wpListK
  intro K hK
  go_wp2_with fail
  refine (shsum_any _ 2 2 [nm, H] _ (StrsAt_new w'.drew 9 [nm, H]) hsz (by omega)).mono ?_
  rintro e w8 ⟨rfl, hq8⟩
  have hq8 : Q w' w8 := ((Q.refl w').drew.alloc _).trans hq8
  go_wp2_with fail
  refine hK.out _ _ ⟨⟨w8, hq8⟩, rfl⟩ ?_
  clear hK K
  unfold wpListK
  intro K hK
  go_wp2_with fail
  refine hK.out _ _ ⟨⟨w8, hq8⟩, rfl⟩ ?_
  clear hK K
  unfold wpListK
  intro K hK
  go_wp2_with fail
  refine hK.out _ _ ⟨⟨w8, hq8⟩, rfl⟩ ?_
  clear hK K
  unfold wpListK wpPlan
  refine NoPanic.normal ?_
  have hF := hF.go hq8
  have hx8 := hx.q hq8
  have hx := hx8
  clear cn cs ch hq8
  go_wp2_with fail
  have hN1 := BF.new w8.heap.size w8 (Nat.le_refl _)
  have hs9 : (w8.alloc (.cells #[.pointer none, .slice none 0 0] 56)).heap.size = w8.heap.size + 1 := by simp
  have hF := hF.go ((Q.refl w8).alloc (.cells #[.pointer none, .slice none 0 0] 56))
  have hx := hx.q ((Q.refl w8).alloc (.cells #[.pointer none, .slice none 0 0] 56))
  have hlx : N0 + 1 + 1 + 1 + 1 < w8.heap.size := hx8.lt
  generalize w8.alloc (.cells #[.pointer none, .slice none 0 0] 56) = w9 at *
  generalize w8.heap.size = N1 at *
  refine (blocks_mk _ _).mono ?_
  rintro e w5 ⟨rfl, hw5⟩
  have hq5 : Q w9 w5 := by rw [hw5]; exact (Q.refl _).alloc _
  have hx5 : BoxI w5 w9.heap.size (n : Int) := by rw [hw5]; exact World.alloc_heap_new _ _
  have hs5 : w5.heap.size = N1 + 1 + 1 := by rw [hw5]; simp [hs9]
  rw [hs9] at hx5
  have hF := hF.go hq5
  have hx := hx.q hq5
  have hb5 := hN1.q hq5
  clear hw5
  go_wp2_with fail
  refine wpIn_wide.1 (wp_rangeFunc_c (n := 1) rfl (enters_of Try.func65 (by kernel_rfl) rfl) (blocks_seq n hnn (N1 + 1)) (by omega) (fun W hg => (BoxV.grown (v := .int .i64 (n : Int)) (t := 3) hx5 hg (by simp) : BoxV W (N1 + 1) _ _)) (fun _ => rfl)
    (fun pre W => BF N1 N1 (textK s n pre.length) W ∧ Fr w N0 nm s (.string ⟨#[]⟩) .nilIface W ∧ BoxV W (N0 + 1 + 1 + 1 + 1) (.string ⟨H.toArray⟩) 9 ∧ (∀ j, j < pre.length → okK nm s n j = true))
    (fun c pre W => c = .ret ∧ ∃ b a, w5.heap.size + 3 ≤ b ∧ BoxV W (N0 + 1 + 1) (.string ⟨#[]⟩) 9 ∧ BoxV W (N0 + 1 + 1 + 1) (.iface 67 (.pointer (some ⟨b, 0, none⟩))) 24 ∧ FaultAt W b 14 a ∧ OpSays nm s [] 14 a ∧ Q w W) ?hI ?hIx ⟨hb5, hF, hx, fun j hj => absurd hj (by simp)⟩
    (fun x a' W => ∃ Bx, w5.heap.size + 3 ≤ Bx ∧ BlkAt W Bx (aK n x : Int) (sK n x : Int) (zK n x : Int) ∧ a' = ({ tmps := #[.string ⟨nm.toArray⟩, .string ⟨s.toArray⟩, .pointer (some ⟨N0, 0, none⟩), .pointer (some ⟨N0 + 1, 0, none⟩), .pointer (some ⟨N0 + 1 + 1, 0, none⟩), .pointer (some ⟨N0 + 1 + 1 + 1, 0, none⟩), .pointer (some ⟨N0 + 1 + 1 + 1 + 1, 0, none⟩), .int .i64 (n : Int), .pointer (some ⟨N1, 0, none⟩), .int .i64 (x : Int), .pointer (some ⟨Bx, 0, none⟩), undef, .string ⟨nm.toArray⟩, .int .i64 (nm.length : Int), .bool false, undef, .string ⟨s.toArray⟩, .int .i64 (s.length : Int), .bool false, undef, .string ⟨s.toArray⟩, .string ⟨H.toArray⟩, .string ⟨H.toArray⟩, .int .u8 ((gB H 0).toNat : Int), .int .i64 ((gB H 0).toNat : Int), .int .i64 (((gB H 0).toNat : Int) * 16777216), .string ⟨H.toArray⟩, .int .u8 ((gB H 1).toNat : Int), .int .i64 ((gB H 1).toNat : Int), .int .i64 (((gB H 1).toNat : Int) * 65536), .int .i64 (bits .or .i64 (((gB H 0).toNat : Int) * 16777216) (((gB H 1).toNat : Int) * 65536)), .string ⟨H.toArray⟩, .int .u8 ((gB H 2).toNat : Int), .int .i64 ((gB H 2).toNat : Int), .int .i64 (((gB H 2).toNat : Int) * 256), .int .i64 (bits .or .i64 (bits .or .i64 (((gB H 0).toNat : Int) * 16777216) (((gB H 1).toNat : Int) * 65536)) (((gB H 2).toNat : Int) * 256)), .string ⟨H.toArray⟩, .int .u8 ((gB H 3).toNat : Int), .int .i64 ((gB H 3).toNat : Int), .int .i64 (n : Int), .int .i64 (n : Int), .bool false, .bool false, .string ⟨s.toArray⟩, .int .i64 (s.length : Int), .int .i64 (n : Int), .int .i64 (sizeI (n : Int)), .bool false, .bool false, .bool false, .string ⟨s.toArray⟩, .string ⟨(sub s 4 36).toArray⟩, .string ⟨nm.toArray⟩, .string ⟨H.toArray⟩, .slice (some ⟨w'.heap.size, 0, none⟩) 2 2, .string ⟨(sha (listL [nm, H])).toArray⟩, .bool false, .bool false, undef, .int .i64 (n : Int), .func (.func 65) #[] #[.pointer (some ⟨N1 + 1, 0, none⟩)], .int .i64 (x : Int), .agg #[.int .i64 (aK n x : Int), .int .i64 (sK n x : Int), .int .i64 (zK n x : Int)], undef, undef, undef, undef, undef, undef, undef, undef, undef, undef, undef, undef, undef, undef, undef, undef, undef, undef, undef, undef, undef, undef, undef, undef, undef, undef, undef, undef, undef, undef, undef, undef, undef, undef, undef, undef], defers := [] } : Act)) ?hAx ?assign ?body ?done ?stop)
  case hI =>
    rintro pre W W' row ⟨i1, i2, i3, i4⟩ hg hr hn
    have hne : ∀ k, k < w5.heap.size → row ≠ some k := fun k hk e => by have := hr k e; omega
    exact ⟨i1.grown hg (fun r o e ho => ⟨hn r o e ho, by have := hr r e; omega⟩), ⟨i2.n.grown hg (hne _ (by omega)), i2.s.grown hg (hne _ (by omega)), i2.t.grown hg (hne _ (by omega)), i2.e.grown hg (hne _ (by omega)), Below.grown i2.q hg i2.q.size (fun k e => by have := hr k e; omega), i2.sz⟩, i3.grown hg (hne _ (by omega)), i4⟩
  case hIx =>
    rintro c pre W W' row ⟨rfl, b, a, hb, j1, j2, j3, j4, j5⟩ hg hr hn
    have hne : ∀ k, k < w5.heap.size → row ≠ some k := fun k hk e => by have := hr k e; omega
    exact ⟨rfl, b, a, hb, j1.grown hg (hne _ (by omega)), j2.grown hg (hne _ (by omega)), (hg.block _ (Array.getElem?_eq_some_iff.1 j3).1 (fun e => by have := hr _ e.symm; omega)).trans j3, j4, Below.grown j5 hg j5.size (fun k e => by have := hr k e; omega)⟩
  case hAx =>
    rintro x a' _ W W' row ⟨Bx, hBx, hb, rfl⟩ hg hr hn
    exact ⟨Bx, hBx, (hg.block _ (Array.getElem?_eq_some_iff.1 hb).1 (fun e => by have := hr _ e.symm; omega)).trans hb, rfl⟩
  case assign =>
    intro r x W K hsz hK
    unfold encB
    gi_wp2
    exact hK _ _ (World.grownBy_alloc W _ none) ⟨W.heap.size, by omega, World.alloc_heap_new W _, rfl⟩
  case done =>
    rintro D xs W hD1 hD2 rfl ⟨i1, i2, i3, i4⟩ hK
    rw [List.length_range] at i1 i4
    have HF := Lib.hid i1
    have ho : OpSays nm s (textK s n (nB n)) 0 0 := .inr (.inr (.inr ⟨hn, hgood.out, by rw [hN]; simpa using i4, by rw [hN]; simp, rfl, rfl⟩))
    clear i1 i4
    have hsW : N1 ≤ W.heap.size := by have := (Array.getElem?_eq_some_iff.1 hK).1; omega
    go_wp2_with fail
    refine (bfString N1 N1 _ _ HF.out hsW).mono ?_
    rintro e w6 ⟨rfl, hb6, hk6⟩
    have hK6 : w6.heap[D]? = some (Obj.deferred (some [])) := hk6 D _ hK (by simp; omega) (fun c fz e => by cases e)
    have i2 := i2.below hb6 (by omega)
    clear hK hk6 hb6 HF
    have f0 : ErrIs w6 .nilIface 0 0 := .inl ⟨rfl, rfl⟩
    obtain ⟨f1, f2, t', v', x', a', f3, f4, f5, f6⟩ := i2.fin f0 ho
    have c4 := i2.t.c
    have c5 := i2.e.c
    have z4 := i2.t.fz
    have z5 := i2.e.fz
    have hsz0 := i2.sz
    have hK7 : ((w6.setCell ⟨N0 + 1 + 1, 0, none⟩ (.string ⟨(textK s n (nB n)).toArray⟩)).setCell ⟨N0 + 1 + 1 + 1, 0, none⟩ .nilIface).heap[D]? = some (Obj.deferred (some [])) :=
      (heap_setCell_other _ ⟨N0 + 1 + 1 + 1, 0, none⟩ D _ (by simp; omega)).trans ((heap_setCell_other w6 ⟨N0 + 1 + 1, 0, none⟩ D _ (by simp; omega)).trans hK6)
    obtain ⟨e1, e2, e3⟩ := Open_end (D := D) f1 f2 (.inl ⟨rfl, rfl⟩) ho f6 (by omega) hsz0
    clear hK6 f0 f1 f2 f3 f4 f5 f6 ho
    go_wp2_with fail
    refine ⟨by simp, .inl ⟨_, _, rfl, run_takeDeferred hK7, ?_⟩⟩
    exact ⟨_, results_two rfl rfl rfl e1 e2, e3⟩
  case stop =>
    rintro D c pre W hD1 hD2 _ ⟨rfl, b, a, hb, j1, j2, j3, j4, j5⟩ hK
    have j3' : FaultAt (W.putObj D (.deferred none)) b 14 a := (World.putObj_heap_other (by omega)).trans j3
    obtain ⟨e1, e2, e3⟩ := Open_end (D := D) j1 j2 (.inr ⟨by omega, b, rfl, j3'⟩) j4 j5 (by omega) hF.sz
    refine wpIn_wide.2 ?_
    go_wp2_with fail
    refine ⟨by simp, .inl ⟨_, _, rfl, run_takeDeferred hK, ?_⟩⟩
    exact ⟨_, results_two rfl rfl rfl e1 e2, e3⟩
  case body =>
    rintro r pre x a' W ⟨i1, i2, i3, i4⟩ ⟨rfl, hx⟩ hW hnr ⟨Bx, hBx, hb, rfl⟩
    rw [List.length_range] at i1 i4
    have HF := Lib.hid i1
    have HO := Lib.hid i4
    clear i1 i4
    have ha := aK_lt n x hx
    have hsze : (s.length : Int) = sizeI n := by rw [← hN]; exact h4'.out
    have hol := obL_len s n x hnn hx hsze
    have hos := osL_len s n x hnn hx hsze
    have hge := sizeI_ge n x hnn hx
    rw [← hsze] at hge
    clear hsze
    have hsb := sK_bd n x hnn hx
    have hzb : (zK n x : Int) ≤ 200 := by unfold zK; omega
    have hx60 : x ≤ 60 := by unfold nB at hx; omega
    have hob : sub s (sK n x) (sK n x + zK n x) = obL s n x := rfl
    have hob2 : sub s (sK n x + zK n x) (sK n x + zK n x + 32) = osL s n x := rfl
    have htl := textK_len s n x
    have c1 := hb.c1
    have c2 := hb.c2
    have ct := i2.s.c
    gi_wp2
    rw [hob]
    have ct : ∀ m : QW W, m.val.cell? ⟨N0 + 1, 0, none⟩ = some (.string ⟨s.toArray⟩) := fun m => m.cell i2.s.c
    have cn : ∀ m : QW W, m.val.cell? ⟨N0, 0, none⟩ = some (.string ⟨nm.toArray⟩) := fun m => m.cell i2.n.c
    have ch : ∀ m : QW W, m.val.cell? ⟨N0 + 1 + 1 + 1 + 1, 0, none⟩ = some (.string ⟨H.toArray⟩) := fun m => m.cell i3.c
    have c1 : ∀ m : QW W, m.val.cell? ⟨Bx, 1, none⟩ = some (.int .i64 (sK n x : Int)) := fun m => m.cell hb.c1
    have c2 : ∀ m : QW W, m.val.cell? ⟨Bx, 2, none⟩ = some (.int .i64 (zK n x : Int)) := fun m => m.cell hb.c2
    refine wpIn_plan [([0, 1, 2, 3, 4, 5, 6, 7, 8, 9, 10, 11, 12, 13, 14, 15, 17], [16, 18, 19, 20])] (by kernel_rfl) (fun ⟨_, _, h⟩ => h) (by kernel_rfl) (by kernel_rfl) (by intro c a d v w h; cases d <;> exact h) ?_
    unfold wpPlan
    simp only [List.map_cons, List.map_nil, Array.getD_eq_getD_getElem?, List.getElem?_toArray, List.getElem?_cons_succ, List.getElem?_cons_zero, Option.getD_some]
    (repeat (go_big_quiet_step (fail)))
    refine wpQuiet_nil ?_
    have hS : sha (listL [nm, H, U32 (x : Int), obL s n x]) = sumL nm n x (obL s n x) := by unfold sumL; rw [hHU.out, hN]
    have hsz4 : 4 + szL [nm, H, U32 (x : Int), obL s n x] ≤ 60000 := by rw [sz4, hl4, length_U32]; omega
    unfold wpListK
    intro K hK
    go_wp2_with fail
    refine (num_any x _ (by omega) (by omega)).mono ?_
    rintro e wa ⟨rfl, hqa⟩
    have hqa : Q W wa := (Q.refl W).drew.trans hqa
    go_wp2_with fail
    refine hK.out _ _ ⟨⟨wa, hqa⟩, rfl⟩ ?_
    clear hK K
    unfold wpListK
    intro K hK
    go_wp2_with fail
    refine hK.out _ _ ⟨⟨_, hqa.alloc _⟩, rfl⟩ ?_
    clear hK K
    unfold wpListK
    intro K hK
    go_wp2_with fail
    refine (shsum_any _ 4 4 [nm, H, U32 (x : Int), obL s n x] _ (StrsAt_new wa 9 [nm, H, U32 (x : Int), obL s n x]) hsz4 (by omega)).mono ?_
    rintro e wb ⟨rfl, hqb⟩
    have hqb : Q W wb := (hqa.alloc _).trans hqb
    rw [hS]
    go_wp2_with fail
    refine hK.out _ _ ⟨⟨wb, hqb⟩, rfl⟩ ?_
    clear hK K
    clear c1 c2 ct cn ch
    have i2 := i2.go hqb
    have i3 := i3.q hqb
    have hb := hb.c1
    have c1 := hqb.cell hb
    have hsB := hqb.size
    by_cases hc : osL s n x = sumL nm n x (obL s n x)
    · have g8 : (osL s n x == sumL nm n x (obL s n x)) = true := by simpa using hc
      have hc := Lib.hid hc
      unfold wpListK
      intro K hK
      go_wp2_with fail
      refine hK.out _ _ ⟨⟨wb, hqb⟩, rfl⟩ ?_
      clear hK K
      unfold wpListK wpPlan
      have hsB1 : N1 ≤ wb.heap.size := by omega
      have hlB : (textK s n x).length + (obL s n x).length ≤ 140737488355328 := by omega
      gi_wp2_with fail
      refine ⟨trivial, ?_⟩
      refine (CallsIn.inRound r (callsIn_wide.2 (bfWrite N1 N1 (textK s n x) (obL s n x) wb (HF.out.q hqb) hlB hsB1))).mono ?_
      rintro e wz ⟨rfl, hbz, hz, hkz⟩
      gi_wp2
      refine ⟨KeepL.of hqb hkz hz.size (by intro k hk; simp only [List.mem_cons, List.not_mem_nil, or_false] at hk; omega) hnr, ?_, i2.below hz (by omega), i3.below hz (by omega), ?_⟩
      · rw [List.length_append, List.length_range, List.length_singleton, textK_s]
        exact hbz
      · intro j hj
        rw [List.length_append, List.length_range, List.length_singleton] at hj
        rcases Nat.lt_succ_iff_lt_or_eq.mp hj with e | e
        · exact HO.out j e
        · subst e; exact decide_eq_true hc.out
    · have g8 : (osL s n x == sumL nm n x (obL s n x)) = false := by simpa using hc
      have ho : OpSays nm s [] 14 (sK n x : Int) := .inr (.inr (.inl ⟨hn, hgood.out, x, by rw [hN]; simpa using hx, by rw [hN]; simpa using HO.out, by rw [hN]; exact decide_eq_false hc, rfl, rfl, by rw [hN]; simp⟩))
      clear hc
      unfold wpListK
      intro K hK
      go_wp2_with fail
      refine hK.out _ _ ⟨⟨wb, hqb⟩, rfl⟩ ?_
      clear hK K
      unfold wpListK wpPlan
      gi_wp2_with fail
      refine ⟨trivial, ?_⟩
      refine (CallsIn.inRound r (callsIn_wide.2 (shfault_at 14 (sK n x : Int) wb))).mono ?_
      rintro e wc ⟨⟨bb, hbb, rfl, hfb⟩, hqc⟩
      have i2 := i2.go hqc
      have c4 := i2.t.c
      have c5 := i2.e.c
      have z4 := i2.t.fz
      have z5 := i2.e.fz
      gi_wp2
      have he : ErrIs wc (.iface 67 (.pointer (some ⟨bb, 0, none⟩))) 14 (sK n x : Int) := .inr ⟨by omega, bb, rfl, hfb⟩
      obtain ⟨f1, f2, _, _, _, _, _, _, _, f6⟩ := i2.fin (t := []) he ho
      have hsz0 := i2.sz
      have hqWc := hqb.trans hqc
      have hscc := hqWc.size
      refine ⟨⟨by simp [World.setCell]; omega, ?_⟩, rfl, bb, (sK n x : Int), by omega, f1, f2, ?_, ho, f6⟩
      · intro k hk
        simp only [List.mem_cons, List.not_mem_nil, or_false] at hk
        have hkW : k < W.heap.size := by omega
        rw [heap_setCell_other _ ⟨N0 + 1 + 1 + 1, 0, none⟩ k _ (by simp; omega), heap_setCell_other wc ⟨N0 + 1 + 1, 0, none⟩ k _ (by simp; omega)]
        exact Below.block hqWc k hkW
      · exact (heap_setCell_other _ ⟨N0 + 1 + 1 + 1, 0, none⟩ bb _ (by simp; omega)).trans ((heap_setCell_other wc ⟨N0 + 1 + 1, 0, none⟩ bb _ (by simp; omega)).trans hfb)
theorem Open_any (nm s : List UInt8) (w : World) (hn : nm.length ≤ 140737488355328) (hs : s.length ≤ 140737488355328) :
    Calls Try.prog 18 #[.string ⟨nm.toArray⟩, .string ⟨s.toArray⟩] w (OpenPost nm s w) := by
  by_cases h1 : 220 < nm.length
  · exact Open_a nm s w hn hs h1
  by_cases h2 : s.length < 36
  · exact Open_b nm s w (by omega) h2
  by_cases h3 : 10000 < r32 s
  · exact Open_c1 nm s w (by omega) hs (by omega) h3
  by_cases h4 : (s.length : Int) = sizeI (r32 s)
  · by_cases h5 : sub s 4 36 = sha (listL [nm, U32 (r32 s)])
    · exact Open_e nm s w (by omega) hs (by omega) h3 h4 h5
    · exact Open_d nm s w (by omega) hs (by omega) h3 h4 h5
  · exact Open_c2 nm s w (by omega) hs (by omega) h3 h4
end Go.Proofs.Yteadblkkbbhpjaa
