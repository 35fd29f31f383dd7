/- known: the chapter's examples are so. -/
import Derived.Test.YteadblkkbbhpjaaSnV
set_option linter.unusedVariables false
namespace Go.Proofs.Yteadblkkbbhpjaa
open Go Go.RowKit
theorem make_zs (w : World) : ∃ w', (Instr.makeSlice 35 (.int .i64 450) (.int .i64 450)).run Try.prog w = .ok (.slice (some ⟨w.heap.size, 0, none⟩) 450 450) w' ∧ OwnB w w' (.slice (some ⟨w.heap.size, 0, none⟩) 450 450) zsK ∧ Q w w' := by
  obtain ⟨i, hi, hz, hsz, hby⟩ := info_parts info_u8
  have h := run_make (P := Try.prog) w 35 5 i _ Try.underlying35 hi hz .i64 .i64 450 (450 : Int) (by omega) (by omega) (by rw [hby]; omega) (by omega)
  rw [hsz] at h
  refine ⟨_, h, .inr ⟨w.heap.size, 450, _, (0, 0), by rw [zs_len], Nat.le_refl _, heap_alloc_new w _, .inl rfl, by rw [zs_len]; omega, by unfold maxLen; omega, ?_, ?_⟩, (Q.refl w).alloc _⟩
  · rw [size_madeCells]; simp
  · rw [show (Value.int .u8 0).cells = #[Value.int .u8 0] from rfl, toList_madeCells_one, zs_len, List.take_replicate]
    unfold zsK
    rw [List.map_replicate]
    rfl
set_option maxRecDepth 100000 in
set_option maxHeartbeats 4000000 in
theorem known_any (w : World) : Calls Try.prog 12 #[] w fun e w' => e = .returned (.bool true) ∧ Q w w' := by
  go_enter Try.func12, Try.ntmps12
  have hzl := zs_len
  obtain ⟨w1, hm, ho1, hq1⟩ := make_zs w
  have hc1 := conv_b ho1
  clear ho1
  go_wp2_with fail
  refine (Seal_ok [110] zsK _ (by decide) (by rw [zs_len]; omega)).mono ?_
  rintro e w2 ⟨rfl, hq2⟩
  have hS : sealL [110] zsK = seK := rfl
  rw [hS]
  have hq02 := hq1.trans hq2
  clear hc1 hm hq1 hq2
  have hsl := Lib.hid se_len
  go_wp2_with fail
  refine (Open_any [110] seK _ (by decide) (by rw [hsl.out]; omega)).mono ?_
  rintro e w3 ⟨t, v, x, a, rfl, he3, ho3, hq3⟩
  obtain ⟨rfl, rfl, rfl⟩ := ho3.inj (open_seal [110] zsK (by decide) (by rw [zs_len]; omega))
  obtain rfl : v = .nilIface := by rcases he3 with ⟨_, h⟩ | ⟨h, _⟩; exact h; exact absurd rfl h
  have hq03 := hq02.trans hq3
  clear he3 hq3 hq02 ho3
  go_wp2_with fail
  refine (Open_any [109] seK _ (by decide) (by rw [hsl.out]; omega)).mono ?_
  rintro e w4 ⟨t, v4, x, a, rfl, he4, ho4, hq4⟩
  obtain ⟨rfl, rfl, rfl⟩ := ho4.inj open_m
  have hq04 := hq03.trans hq4
  clear hq4 hq03 ho4
  obtain ⟨vb, w5, hcv, ho5, hq5, cap, rfl⟩ := bytes_of seK w4 (by rw [hsl.out]; omega)
  rw [hsl.out] at hcv ho5
  obtain ⟨g, hg⟩ : ∃ g, g = w4.heap.size := ⟨_, rfl⟩
  rw [← hg] at hcv ho5
  have hgw : w.heap.size ≤ g := by rw [hg]; exact hq04.size
  have hG := Lib.hid hg
  clear hg
  have hq05 := hq04.trans hq5
  have he5 := he4.q hq5
  obtain ⟨g', cap', hv, hgg, _, _, hcc⟩ := ho5.pos (by rw [hsl.out]; omega)
  obtain ⟨rfl, rfl⟩ : g = g' ∧ cap = cap' := by cases hv; exact ⟨rfl, rfl⟩
  have c317 := (hcc 317 (by rw [hsl.out]; omega)).1
  have f317 := (hcc 317 (by rw [hsl.out]; omega)).2
  rw [se_317] at c317
  have c317 : w5.cell? ⟨g, 317, none⟩ = some (.int .u8 0) := c317
  have hx4 : bits .xor .u8 0 4 = 4 := by decide
  have ho6 : OwnB w4 (w5.setCell ⟨g, 317, none⟩ (.int .u8 4)) (.slice (some ⟨g, 0, none⟩) 582 cap) (seK.set 317 4) := ho5.set 317 4
  have hc6 := conv_b ho6
  have hq06 : Q w (w5.setCell ⟨g, 317, none⟩ (.int .u8 4)) := hq05.setNew (p := ⟨g, 317, none⟩) hgw _
  have he6 : ErrIs (w5.setCell ⟨g, 317, none⟩ (.int .u8 4)) v4 14 0 := by
    rcases he4 with h | ⟨h0, b, h1, h2⟩
    · exact .inl h
    · refine .inr ⟨h0, b, h1, ?_⟩
      have hbl := (Array.getElem?_eq_some_iff.1 h2).1
      exact (heap_setCell_other w5 ⟨g, 317, none⟩ b _ (by rw [hG.out]; simp; omega)).trans (hq5.block h2)
  clear hcc ho5 ho6 hv hgg
  go_wp2_with fail
  refine (Open_any [110] (seK.set 317 4) _ (by decide) (by rw [List.length_set, hsl.out]; omega)).mono ?_
  rintro e w7 ⟨t, v7, x, a, rfl, he7, ho7, hq7⟩
  obtain ⟨rfl, rfl, rfl⟩ := ho7.inj open_flip
  have hq07 := hq06.trans hq7
  have he47 := he6.q hq7
  clear ho7 hq7 he6 hq06 hc6 c317 f317 hcv
  go_wp2_with fail
  refine (is_any v4 14 0 _ he47).mono ?_
  rintro e w8 ⟨rfl, hq8⟩
  have he78 := he7.q hq8
  have hq08 := hq07.trans hq8
  go_wp2_with fail
  refine (is_any v7 14 268 _ he78).mono ?_
  rintro e w9 ⟨rfl, hq9⟩
  have hq09 := hq08.trans hq9
  have z0 : sizeI 0 = 36 := by decide
  have z1 : sizeI 201 = 301 := by decide
  have z2 : sizeI (-1) = 0 := by decide
  clear hq9 he78 hq08 hq8 he47 hq07 he7
  go_wp2_with (go_at_call 16; refine (Size_any _ _).mono ?_; rintro e w'' ⟨rfl, rfl⟩)
  go_ret
  exact ⟨rfl, hq09⟩
end Go.Proofs.Yteadblkkbbhpjaa
