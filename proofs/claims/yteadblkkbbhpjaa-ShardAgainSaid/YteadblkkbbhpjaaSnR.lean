/- shard.Open: the head. -/
import Derived.Test.YteadblkkbbhpjaaSnQ
import Derived.Deep.RegionHeld3
set_option linter.unusedVariables false
namespace Go.Proofs.Yteadblkkbbhpjaa
open Go Go.RowKit Go.Shelf
theorem r32_sub (s : List UInt8) (h : 4 ≤ s.length) : r32 (sub s 0 4) = r32 s := by
  match s, h with
  | a :: b :: c :: d :: t, _ => simp [r32, sub, gB]
theorem sub4_U32 (s : List UInt8) (h : 4 ≤ s.length) : sub s 0 4 = U32 (r32 s) := by
  match s, h with
  | a :: b :: c :: d :: t, _ =>
    have ha := UInt8.toNat_lt a
    have hb := UInt8.toNat_lt b
    have hc := UInt8.toNat_lt c
    have hd := UInt8.toNat_lt d
    have e : r32 (a :: b :: c :: d :: t) = (a.toNat : Int) * 16777216 + b.toNat * 65536 + c.toNat * 256 + d.toNat := by simp [r32, gB]
    have e0 : r32 (a :: b :: c :: d :: t) / 16777216 % 256 = (a.toNat : Int) := by rw [e]; omega
    have e1 : r32 (a :: b :: c :: d :: t) / 65536 % 256 = (b.toNat : Int) := by rw [e]; omega
    have e2 : r32 (a :: b :: c :: d :: t) / 256 % 256 = (c.toNat : Int) := by rw [e]; omega
    have e3 : r32 (a :: b :: c :: d :: t) % 256 = (d.toNat : Int) := by rw [e]; omega
    unfold U32
    rw [e0, e1, e2, e3, byteOf_toNat, byteOf_toNat, byteOf_toNat, byteOf_toNat]
    rfl
theorem sub_two (s : List UInt8) : sub s 0 36 = sub s 0 4 ++ sub s 4 36 := by
  unfold sub
  rw [List.drop_zero, List.drop_zero, show s.take 4 = (s.take 36).take 4 by rw [List.take_take]; rfl]
  exact (List.take_append_drop 4 _).symm
theorem head_iff (nm s : List UInt8) (h : 36 ≤ s.length) : sub s 0 36 = headL nm (r32 s) ↔ sub s 4 36 = sha (listL [nm, U32 (r32 s)]) := by
  rw [sub_two, sub4_U32 s (by omega)]
  unfold headL
  exact List.append_right_inj _
set_option maxRecDepth 100000 in
set_option maxHeartbeats 4000000 in
theorem Open_c1 (nm s : List UInt8) (w : World) (hn : nm.length ≤ 220) (hs : s.length ≤ 140737488355328) (h36 : 36 ≤ s.length) (h3 : 10000 < r32 s)  :
    Calls Try.prog 18 #[.string ⟨nm.toArray⟩, .string ⟨s.toArray⟩] w (OpenPost nm s w) := by
  have g1 : decide (220 < (nm.length : Int)) = false := by simp; omega
  have g2 : decide ((s.length : Int) < 36) = false := by simp; omega
  refine (callsIn_wide (n := 3)).1 ?_
  refine callsIn_of_wp_marks Try.func18 rfl trivial ?_ rfl
  simp only [Try.ntmps18, List.size_toArray, List.length_cons, List.length_nil, Nat.reduceAdd, Nat.reduceSub, Array.replicate_succ, Array.replicate_zero, List.push_toArray, List.append_toArray, List.nil_append, List.cons_append]
  refine wpIn_wide.2 ?_
  go_wp2_with fail
  obtain ⟨W1, hW1⟩ : ∃ W1, ((((w.alloc (.cells #[.string ⟨nm.toArray⟩] 9)).alloc (.cells #[.string ⟨s.toArray⟩] 9)).alloc (.cells #[.string ⟨#[]⟩] 9)).alloc (.cells #[.nilIface] 24)) = W1 := ⟨_, rfl⟩
  have hF := Fr.start w nm s W1 (by rw [← hW1]; exact Q.refl _)
  have hs1 : W1.heap.size = w.heap.size + 1 + 1 + 1 + 1 := by rw [← hW1]; simp
  rw [hW1]
  clear hW1
  have hx := BoxV.new W1 (.string ⟨(sub s 0 4).toArray⟩) 9
  rw [hs1] at hx
  have hF := hF.go ((Q.refl W1).alloc (.cells #[.string ⟨(sub s 0 4).toArray⟩] 9))
  generalize W1.alloc (.cells #[.string ⟨(sub s 0 4).toArray⟩] 9) = W2 at *
  generalize hN0 : w.heap.size = N0 at *
  have hr4 := r32_sub s (by omega)
  have hl4 : (sub s 0 4).length = 4 := by rw [length_sub]; omega
  generalize sub s 0 4 = H at *
  have b0 := gB_lt H 0
  have b1 := gB_lt H 1
  have b2 := gB_lt H 2
  have b3 := gB_lt H 3
  have hr : bits .or .i64 (bits .or .i64 (bits .or .i64 (((gB H 0).toNat : Int) * 16777216) (((gB H 1).toNat : Int) * 65536)) (((gB H 2).toNat : Int) * 256)) ((gB H 3).toNat : Int) = r32 H :=
    or_four _ _ _ _ (by omega) (by omega) (by omega) (by omega) (by omega) (by omega) (by omega) (by omega)
  have ch : ∀ m : QW W2, m.val.cell? ⟨N0 + 1 + 1 + 1 + 1, 0, none⟩ = some (.string ⟨H.toArray⟩) := fun m => m.cell hx.c
  refine wp_region_q (by kernel_rfl) (by kernel_rfl) ?_
  repeat (go_big_quiet_step (fail))
  refine wpQuiet_nil ?_
  rintro w' ⟨m, hm⟩
  have hq2 : Q W2 w' := by rw [hm]; exact m.le
  have hF := hF.go hq2
  have hx := hx.q hq2
  clear hm m hq2 ch hr b0 b1 b2 b3
  have hb := r32_bd' s
  have cn : ∀ m : QW w', m.val.cell? ⟨N0, 0, none⟩ = some (.string ⟨nm.toArray⟩) := fun m => m.cell hF.n.c
  have cs : ∀ m : QW w', m.val.cell? ⟨N0 + 1, 0, none⟩ = some (.string ⟨s.toArray⟩) := fun m => m.cell hF.s.c
  have ch : ∀ m : QW w', m.val.cell? ⟨N0 + 1 + 1 + 1 + 1, 0, none⟩ = some (.string ⟨H.toArray⟩) := fun m => m.cell hx.c
  have g3 : decide (10000 < r32 s) = true := by simpa using h3
  have hbad : ¬ OpHead nm s := fun h => by have := h.2.1; omega
  go_wp2_with fail
  refine wp_region_noPanic ?_
  refine wp_plan [([0, 1, 2, 3, 4, 5], [6]), ([7, 8, 9, 10, 11, 12, 13], [14, 15, 16, 17])] (by kernel_rfl) (by kernel_rfl) (fun _ _ _ _ _ h => h) ?_
  unfold wpPlan
  simp only [List.map_cons, List.map_nil, Array.getD_eq_getD_getElem?, List.getElem?_toArray, List.getElem?_cons_succ, List.getElem?_cons_zero, Option.getD_some]
  (repeat (go_big_quiet_step (fail)))
  refine wpQuiet_nil ?_
  unfold wpListK
  intro K hK
  go_wp2_with fail
  refine hK.out _ _ ⟨⟨w'.drew, (Q.refl w').drew⟩, rfl⟩ ?_
  clear hK K
  unfold wpListK wpPlan
  simp only [List.map_cons, List.map_nil, Array.getD_eq_getD_getElem?, List.getElem?_toArray, List.getElem?_cons_succ, List.getElem?_cons_zero, Option.getD_some]
  (repeat (go_big_quiet_step (fail)))
  refine wpQuiet_nil ?_
  unfold wpListK
  intro K hK
  go_wp2_with fail
  refine hK.out _ _ ⟨⟨w'.drew, (Q.refl w').drew⟩, rfl⟩ ?_
  clear hK K
  unfold wpListK
  intro K hK
  go_wp2_with fail
  refine hK.out _ _ ⟨⟨w'.drew, (Q.refl w').drew⟩, rfl⟩ ?_
  clear hK K
  unfold wpListK
  intro K hK
  go_wp2_with fail
  refine hK.out _ _ ⟨⟨w'.drew, (Q.refl w').drew⟩, rfl⟩ ?_
  clear hK K
  unfold wpListK
  intro K hK
  go_wp2_with fail
  refine hK.out _ _ ⟨⟨w'.drew, (Q.refl w').drew⟩, rfl⟩ ?_
  clear hK K
  unfold wpListK wpPlan
  refine NoPanic.normal ?_
  have hF := hF.go (Q.refl w').drew
  clear cn cs ch hx hl4
  go_wp2_with fail
  refine (shfault_any 14 0 _).mono ?_
  rintro e w9 ⟨⟨b, rfl, hb9⟩, hq9⟩
  have hF := hF.go hq9
  have he : ErrIs w9 (.iface 67 (.pointer (some ⟨b, 0, none⟩))) 14 0 := .inr ⟨by omega, b, rfl, hb9⟩
  obtain ⟨f1, f2, f3⟩ := hF.fin (t := []) he (.inr (.inl ⟨hn, hbad, rfl, rfl, rfl⟩))
  have c4 := hF.t.c
  have c5 := hF.e.c
  have z4 := hF.t.fz
  have z5 := hF.e.fz
  clear hq9 hb9
  go_wp2_with fail
  exact ⟨_, results_two rfl rfl rfl f1 f2, f3⟩
set_option maxRecDepth 100000 in
set_option maxHeartbeats 4000000 in
theorem Open_c2 (nm s : List UInt8) (w : World) (hn : nm.length ≤ 220) (hs : s.length ≤ 140737488355328) (h36 : 36 ≤ s.length) (h3 : ¬ 10000 < r32 s) (h4 : (s.length : Int) ≠ sizeI (r32 s))  :
    Calls Try.prog 18 #[.string ⟨nm.toArray⟩, .string ⟨s.toArray⟩] w (OpenPost nm s w) := by
  have g1 : decide (220 < (nm.length : Int)) = false := by simp; omega
  have g2 : decide ((s.length : Int) < 36) = false := by simp; omega
  refine (callsIn_wide (n := 3)).1 ?_
  refine callsIn_of_wp_marks Try.func18 rfl trivial ?_ rfl
  simp only [Try.ntmps18, List.size_toArray, List.length_cons, List.length_nil, Nat.reduceAdd, Nat.reduceSub, Array.replicate_succ, Array.replicate_zero, List.push_toArray, List.append_toArray, List.nil_append, List.cons_append]
  refine wpIn_wide.2 ?_
  go_wp2_with fail
  obtain ⟨W1, hW1⟩ : ∃ W1, ((((w.alloc (.cells #[.string ⟨nm.toArray⟩] 9)).alloc (.cells #[.string ⟨s.toArray⟩] 9)).alloc (.cells #[.string ⟨#[]⟩] 9)).alloc (.cells #[.nilIface] 24)) = W1 := ⟨_, rfl⟩
  have hF := Fr.start w nm s W1 (by rw [← hW1]; exact Q.refl _)
  have hs1 : W1.heap.size = w.heap.size + 1 + 1 + 1 + 1 := by rw [← hW1]; simp
  rw [hW1]
  clear hW1
  have hx := BoxV.new W1 (.string ⟨(sub s 0 4).toArray⟩) 9
  rw [hs1] at hx
  have hF := hF.go ((Q.refl W1).alloc (.cells #[.string ⟨(sub s 0 4).toArray⟩] 9))
  generalize W1.alloc (.cells #[.string ⟨(sub s 0 4).toArray⟩] 9) = W2 at *
  generalize hN0 : w.heap.size = N0 at *
  have hr4 := r32_sub s (by omega)
  have hl4 : (sub s 0 4).length = 4 := by rw [length_sub]; omega
  generalize sub s 0 4 = H at *
  have b0 := gB_lt H 0
  have b1 := gB_lt H 1
  have b2 := gB_lt H 2
  have b3 := gB_lt H 3
  have hr : bits .or .i64 (bits .or .i64 (bits .or .i64 (((gB H 0).toNat : Int) * 16777216) (((gB H 1).toNat : Int) * 65536)) (((gB H 2).toNat : Int) * 256)) ((gB H 3).toNat : Int) = r32 H :=
    or_four _ _ _ _ (by omega) (by omega) (by omega) (by omega) (by omega) (by omega) (by omega) (by omega)
  have ch : ∀ m : QW W2, m.val.cell? ⟨N0 + 1 + 1 + 1 + 1, 0, none⟩ = some (.string ⟨H.toArray⟩) := fun m => m.cell hx.c
  refine wp_region_q (by kernel_rfl) (by kernel_rfl) ?_
  repeat (go_big_quiet_step (fail))
  refine wpQuiet_nil ?_
  rintro w' ⟨m, hm⟩
  have hq2 : Q W2 w' := by rw [hm]; exact m.le
  have hF := hF.go hq2
  have hx := hx.q hq2
  clear hm m hq2 ch hr b0 b1 b2 b3
  have hb := r32_bd' s
  have cn : ∀ m : QW w', m.val.cell? ⟨N0, 0, none⟩ = some (.string ⟨nm.toArray⟩) := fun m => m.cell hF.n.c
  have cs : ∀ m : QW w', m.val.cell? ⟨N0 + 1, 0, none⟩ = some (.string ⟨s.toArray⟩) := fun m => m.cell hF.s.c
  have ch : ∀ m : QW w', m.val.cell? ⟨N0 + 1 + 1 + 1 + 1, 0, none⟩ = some (.string ⟨H.toArray⟩) := fun m => m.cell hx.c
  have g3 : decide (10000 < r32 s) = false := by simpa using h3
  have g4 : ((s.length : Int) != sizeI (r32 s)) = true := by simpa using h4
  have hbad : ¬ OpHead nm s := fun h => h4 h.2.2.1
  go_wp2_with fail
  refine wp_region_noPanic ?_
  refine wp_plan [([0, 1, 2, 3, 4, 5], [6]), ([7, 8, 9, 10, 11, 12, 13], [14, 15, 16, 17])] (by kernel_rfl) (by kernel_rfl) (fun _ _ _ _ _ h => h) ?_
  unfold wpPlan
  simp only [List.map_cons, List.map_nil, Array.getD_eq_getD_getElem?, List.getElem?_toArray, List.getElem?_cons_succ, List.getElem?_cons_zero, Option.getD_some]
  (repeat (go_big_quiet_step (fail)))
  refine wpQuiet_nil ?_
  unfold wpListK
  intro K hK
  go_wp2_with (go_at_call 16; refine (Size_any _ _).mono ?_; rintro e w'' ⟨rfl, rfl⟩)
  refine hK.out _ _ ⟨⟨w'.drew, (Q.refl w').drew⟩, rfl⟩ ?_
  clear hK K
  unfold wpListK wpPlan
  simp only [List.map_cons, List.map_nil, Array.getD_eq_getD_getElem?, List.getElem?_toArray, List.getElem?_cons_succ, List.getElem?_cons_zero, Option.getD_some]
  (repeat (go_big_quiet_step (fail)))
  refine wpQuiet_nil ?_
  unfold wpListK
  intro K hK
  go_wp2_with fail
  refine hK.out _ _ ⟨⟨w'.drew, (Q.refl w').drew⟩, rfl⟩ ?_
  clear hK K
  unfold wpListK
  intro K hK
  go_wp2_with fail
  refine hK.out _ _ ⟨⟨w'.drew, (Q.refl w').drew⟩, rfl⟩ ?_
  clear hK K
  unfold wpListK
  intro K hK
  go_wp2_with fail
  refine hK.out _ _ ⟨⟨w'.drew, (Q.refl w').drew⟩, rfl⟩ ?_
  clear hK K
  unfold wpListK
  intro K hK
  go_wp2_with fail
  refine hK.out _ _ ⟨⟨w'.drew, (Q.refl w').drew⟩, rfl⟩ ?_
  clear hK K
  unfold wpListK wpPlan
  refine NoPanic.normal ?_
  have hF := hF.go (Q.refl w').drew
  clear cn cs ch hx hl4
  go_wp2_with fail
  refine (shfault_any 14 0 _).mono ?_
  rintro e w9 ⟨⟨b, rfl, hb9⟩, hq9⟩
  have hF := hF.go hq9
  have he : ErrIs w9 (.iface 67 (.pointer (some ⟨b, 0, none⟩))) 14 0 := .inr ⟨by omega, b, rfl, hb9⟩
  obtain ⟨f1, f2, f3⟩ := hF.fin (t := []) he (.inr (.inl ⟨hn, hbad, rfl, rfl, rfl⟩))
  have c4 := hF.t.c
  have c5 := hF.e.c
  have z4 := hF.t.fz
  have z5 := hF.e.fz
  clear hq9 hb9
  go_wp2_with fail
  exact ⟨_, results_two rfl rfl rfl f1 f2, f3⟩
end Go.Proofs.Yteadblkkbbhpjaa
