/- ShardBack and ShardAgain, walked. -/
import Derived.Test.YteadblkkbbhpjaaSnW
set_option linter.unusedVariables false
namespace Go.Proofs.Yteadblkkbbhpjaa
open Go Go.RowKit
theorem open_longer (nm l : List UInt8) (hn : nm.length ≤ 220) (hl : l.length ≤ 10000) : OpSays nm (sealL nm l ++ [120]) [] 14 0 := by
  refine .inr (.inl ⟨hn, fun h => ?_, rfl, rfl, rfl⟩)
  have h3 := h.2.2.1
  have hs := sealL_len nm l hl
  have hr : r32 (sealL nm l ++ [120]) = l.length := by
    unfold sealL sealK headL
    rw [List.append_assoc, List.append_assoc]
    exact r32_U32' _ _ (by omega) (by omega)
  rw [hr] at h3
  rw [List.length_append, List.length_singleton] at h3
  omega
theorem ErrIs.nil {w : World} {v : Value} {a : Int} (h : ErrIs w v 0 a) : v = .nilIface := by rcases h with ⟨_, h⟩ | ⟨h, _⟩; exact h; exact absurd rfl h
set_option maxRecDepth 100000 in
set_option maxHeartbeats 4000000 in
theorem ShardBack_any (nm l : List UInt8) (w : World) (hn : nm.length ≤ 140737488355328) (hl : l.length ≤ 140737488355328) :
    Calls Try.prog 5 #[.string ⟨nm.toArray⟩, .string ⟨l.toArray⟩] w fun e w' => e = .returned (.bool true) ∧ Q w w' := by
  go_enter Try.func5, Try.ntmps5
  go_wp2_with fail
  refine (known_any _).mono ?_
  rintro e w1 ⟨rfl, hq1⟩
  have HQ := Lib.hid hq1
  clear hq1
  go_wp2_with fail
  have hA : (sub nm 0 (min (nm.length : Int) 220).toNat).length ≤ 220 := by rw [length_sub]; omega
  have hB : (sub l 0 (min (l.length : Int) 10000).toNat).length ≤ 10000 := by rw [length_sub]; omega
  generalize sub nm 0 (min (nm.length : Int) 220).toNat = A at *
  generalize sub l 0 (min (l.length : Int) 10000).toNat = B at *
  refine (Seal_ok A B _ hA hB).mono ?_
  rintro e w2 ⟨rfl, hq2⟩
  have HQ := Lib.hid (HQ.out.trans hq2)
  clear hq2
  have hS := Lib.hid (sealL_len A B hB)
  have ho := Lib.hid (open_seal A B hA hB)
  have hx := Lib.hid (open_longer A B hA hB)
  have hb : (sealL A B).length ≤ 20000 := by
    have := sealL_len A B hB
    have h2 : sizeI B.length = 36 + B.length + 32 * ((B.length + 199) / 200) := by unfold sizeI; rw [if_neg (by omega)]
    omega
  generalize sealL A B = S at *
  go_wp2_with fail
  refine (Open_any A S _ (by omega) (by omega)).mono ?_
  rintro e w3 ⟨t, v3, x, a, rfl, he3, ho3, hq3⟩
  obtain ⟨rfl, rfl, rfl⟩ := ho3.inj ho.out
  obtain rfl := he3.nil
  have HQ := Lib.hid (HQ.out.trans hq3)
  clear hq3 he3 ho3
  go_wp2_with fail
  refine (Open_any A (S ++ [120]) _ (by omega) (by rw [List.length_append, List.length_singleton]; omega)).mono ?_
  rintro e w4 ⟨t4, v4, x, a, rfl, he4, ho4, hq4⟩
  obtain ⟨rfl, rfl, rfl⟩ := ho4.inj hx.out
  have HQ := Lib.hid (HQ.out.trans hq4)
  clear hq4 ho4
  go_wp2_with fail
  refine (is_any v4 14 0 _ he4).mono ?_
  rintro e w5 ⟨rfl, hq5⟩
  have HQ := Lib.hid (HQ.out.trans hq5)
  clear hq5 he4
  have g1 : (t == t) = true := by simp
  have g2 : ((S.length : Int) == sizeI t.length) = true := by simpa using hS.out
  go_wp2_with (go_at_call 16; refine (Size_any _ _).mono ?_; rintro e w'' ⟨rfl, rfl⟩)
  go_ret
  exact ⟨rfl, HQ.out⟩
set_option maxRecDepth 100000 in
set_option maxHeartbeats 4000000 in
theorem ShardAgain_any (nm s : List UInt8) (w : World) (hn : nm.length ≤ 140737488355328) (hs : s.length ≤ 140737488355328) :
    Calls Try.prog 6 #[.string ⟨nm.toArray⟩, .string ⟨s.toArray⟩] w fun e w' => e = .returned (.bool true) ∧ Q w w' := by
  go_enter Try.func6, Try.ntmps6
  go_wp2_with fail
  refine (known_any _).mono ?_
  rintro e w1 ⟨rfl, hq1⟩
  have HQ := Lib.hid hq1
  clear hq1
  go_wp2_with fail
  refine (Open_any nm s _ hn hs).mono ?_
  rintro e w3 ⟨t, v, x, a, rfl, he, ho, hq3⟩
  have HQ := Lib.hid (HQ.out.trans hq3)
  clear hq3
  have bad : ∀ b, v = .iface 67 (.pointer (some ⟨b, 0, none⟩)) → t = [] → True := fun _ _ _ => trivial
  have hcase : (t = [] ∧ ∃ b, v = .iface 67 (.pointer (some ⟨b, 0, none⟩))) ∨ (v = .nilIface ∧ nm.length ≤ 220 ∧ t.length ≤ 10000 ∧ sealL nm t = s) := by
    rcases ho with ⟨h1, rfl, rfl, rfl⟩ | ⟨h1, h2, rfl, rfl, rfl⟩ | ⟨h1, h2, k, hk, hj, hb, rfl, rfl, rfl⟩ | ⟨h1, h2, hj, rfl, rfl, rfl⟩
    · rcases he with ⟨h, _⟩ | ⟨_, b, h, _⟩
      · exact absurd h (by omega)
      · exact .inl ⟨rfl, b, h⟩
    · rcases he with ⟨h, _⟩ | ⟨_, b, h, _⟩
      · exact absurd h (by omega)
      · exact .inl ⟨rfl, b, h⟩
    · rcases he with ⟨h, _⟩ | ⟨_, b, h, _⟩
      · exact absurd h (by omega)
      · exact .inl ⟨rfl, b, h⟩
    · have hr := r32_bd' s
      have h3 := h2.2.1
      obtain ⟨hl, hse⟩ := seal_open nm s (r32 s).toNat (by omega) h2 hj
      exact .inr ⟨he.nil, h1, by omega, hse⟩
  clear bad he ho
  rcases hcase with ⟨rfl, b, rfl⟩ | ⟨rfl, h1, h2, h3⟩
  · go_wp2_with fail
    go_ret
    exact ⟨rfl, HQ.out⟩
  · go_wp2_with fail
    refine (Seal_ok nm t _ h1 h2).mono ?_
    rintro e w2 ⟨rfl, hq2⟩
    have HQ := Lib.hid (HQ.out.trans hq2)
    clear hq2
    rw [h3]
    clear h3
    have g1 : (s == s) = true := by simp
    go_wp2_with fail
    go_ret
    exact ⟨rfl, HQ.out⟩
end Go.Proofs.Yteadblkkbbhpjaa
