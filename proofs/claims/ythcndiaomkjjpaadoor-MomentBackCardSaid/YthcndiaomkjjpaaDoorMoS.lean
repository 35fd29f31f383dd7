/- What is read of a web text: plain; the library's Index. -/
import Derived.Test.YthcndiaomkjjpaaDoorMoL
import Derived.Test.YthcndiaomkjjpaaDoorShelf2
import Derived.Shelf.Vars
set_option linter.unusedVariables false
namespace Go.Proofs.YthcndiaomkjjpaaDoor
open Go Go.RowKit
/-- The library's own variable holds some number. -/
def ML (w : World) : Prop := ∃ m, w.cell? ⟨0, 0, none⟩ = some (.int .i64 m)
theorem ML.q {w w' : World} (h : ML w) (hq : Q w w') : ML w' := h.elim fun m hm => ⟨m, hq.cell hm⟩
theorem ML.r {w0 : World} {g : Nat} {l : List UInt8} {st : Bool} (h : ML w0) (m : RW w0 g l st) (hg : 0 ≠ g) : ML m.val := h.elim fun x hx => ⟨x, m.cell hx hg⟩
theorem ml_shaped {w : World} (h : w.ShapedOpen Tryd.prog) : ML w := cell_of_shapedOpen_int (g := 0) (t := 3) (zero := #[.int .i64 0]) h (of_decide_eq_true (by kernel_rfl)) (by kernel_rfl) rfl (by kernel_rfl) (by kernel_rfl) Tryd.underlying3
theorem index_any (s p : List UInt8) (w : World) (h : ML w) (hs : s.length < 4294967281) : Calls Tryd.prog 39 #[.string ⟨s.toArray⟩, .string ⟨p.toArray⟩] w fun e w' => e = .returned (.int .i64 (Lib.index s p)) ∧ w = w' := by
  obtain ⟨m, hm⟩ := h
  exact (Tryd.strings_Index ⟨s.toArray⟩ ⟨p.toArray⟩ m w hs hm).mono fun e w' ⟨h1, h2⟩ => ⟨h1, h2.symm⟩
theorem week3 (t : Int) : ∃ a b c, weekL t = [a, b, c] := by
  unfold weekL weeksL
  rcases (by omega : (t / 86400 + 4) % 7 = 0 ∨ (t / 86400 + 4) % 7 = 1 ∨ (t / 86400 + 4) % 7 = 2 ∨ (t / 86400 + 4) % 7 = 3 ∨ (t / 86400 + 4) % 7 = 4 ∨ (t / 86400 + 4) % 7 = 5 ∨ (t / 86400 + 4) % 7 = 6) with e | e | e | e | e | e | e <;> rw [e] <;> exact ⟨_, _, _, rfl⟩
theorem month3 (M : Int) (h0 : 1 ≤ M) (h1 : M ≤ 12) : (∃ a b c, monthL M = [a, b, c]) ∧ Lib.index monthsL (monthL M) = 3 * (M - 1) := by
  rcases (by omega : M = 1 ∨ M = 2 ∨ M = 3 ∨ M = 4 ∨ M = 5 ∨ M = 6 ∨ M = 7 ∨ M = 8 ∨ M = 9 ∨ M = 10 ∨ M = 11 ∨ M = 12) with rfl | rfl | rfl | rfl | rfl | rfl | rfl | rfl | rfl | rfl | rfl | rfl <;>
  exact ⟨⟨_, _, _, rfl⟩, by decide +kernel⟩
def posW : List (Int × Int) := [(12, 4), (5, 2), (17, 2), (20, 2), (23, 2)]
set_option maxHeartbeats 2000000 in
theorem parseWeb (t : Int) (h0 : 0 ≤ t) (h1 : t ≤ 253402300799) : (webL t).length = 29 ∧ sub (webL t) 8 11 = monthL (civM (zI t)) ∧ (∀ a k : Int, (a, k) ∈ posW → (numK (webL t) a.toNat k.toNat).isSome = true) ∧ nv (webL t) 12 4 = civY (zI t) ∧ nv (webL t) 5 2 = civD (zI t) ∧ nv (webL t) 17 2 = hoI t ∧ nv (webL t) 20 2 = miI t ∧ nv (webL t) 23 2 = seI t := by
  obtain ⟨⟨y0, y1⟩, ⟨m0, m1⟩, ⟨d0, d1⟩, ⟨o0, o1⟩, ⟨i0, i1⟩, ⟨s0, s1⟩⟩ := parts_bd t h0 h1
  obtain ⟨a, b, c, hw⟩ := week3 t
  obtain ⟨⟨d, e, f, hm⟩, _⟩ := month3 (civM (zI t)) m0 m1
  have hW : webL t = [a, b, c] ++ [44, 32] ++ d2 (civD (zI t)) ++ [32] ++ [d, e, f] ++ [32] ++ d4 (civY (zI t)) ++ [32] ++ d2 (hoI t) ++ [58] ++ d2 (miI t) ++ [58] ++ d2 (seI t) ++ [32, 71, 77, 84] := by unfold webL; rw [hw, hm]
  rw [hW, hm]
  generalize civY (zI t) = Y at *
  generalize civD (zI t) = D at *
  generalize hoI t = o at *
  generalize miI t = i at *
  generalize seI t = s at *
  obtain ⟨L, hL⟩ : ∃ L, L = [a, b, c] ++ [44, 32] ++ d2 D ++ [32] ++ [d, e, f] ++ [32] ++ d4 Y ++ [32] ++ d2 o ++ [58] ++ d2 i ++ [58] ++ d2 s ++ [32, 71, 77, 84] := ⟨_, rfl⟩
  have hl : L.length = 29 := by rw [hL]; rfl
  have n0 := numK_d4 L 12 Y (by omega) (by omega) (by omega) (by rw [hL]; rfl) (by rw [hL]; rfl) (by rw [hL]; rfl) (by rw [hL]; rfl)
  have n2 := numK_d2 L 5 D (by omega) (by omega) (by omega) (by rw [hL]; rfl) (by rw [hL]; rfl)
  have n3 := numK_d2 L 17 o (by omega) (by omega) (by omega) (by rw [hL]; rfl) (by rw [hL]; rfl)
  have n4 := numK_d2 L 20 i (by omega) (by omega) (by omega) (by rw [hL]; rfl) (by rw [hL]; rfl)
  have n5 := numK_d2 L 23 s (by omega) (by omega) (by omega) (by rw [hL]; rfl) (by rw [hL]; rfl)
  have hsub : sub L 8 11 = [d, e, f] := by rw [hL]; rfl
  rw [← hL]
  refine ⟨hl, hsub, ?_, ?_, ?_, ?_, ?_, ?_⟩
  · intro a k h
    simp only [posW, List.mem_cons, Prod.mk.injEq, List.not_mem_nil, or_false] at h
    rcases h with ⟨rfl, rfl⟩ | ⟨rfl, rfl⟩ | ⟨rfl, rfl⟩ | ⟨rfl, rfl⟩ | ⟨rfl, rfl⟩
    · exact congrArg Option.isSome n0
    · exact congrArg Option.isSome n2
    · exact congrArg Option.isSome n3
    · exact congrArg Option.isSome n4
    · exact congrArg Option.isSome n5
  · exact congrArg (Option.getD · 0) n0
  · exact congrArg (Option.getD · 0) n2
  · exact congrArg (Option.getD · 0) n3
  · exact congrArg (Option.getD · 0) n4
  · exact congrArg (Option.getD · 0) n5
theorem readyWeb (t : Int) (h0 : 0 ≤ t) (h1 : t ≤ 253402300799) : (∀ a k : Int, (a, k) ∈ posW → (numK (webL t) a.toNat k.toNat).isSome = true) ∧ fromE (nv (webL t) 12 4) (civM (zI t)) (nv (webL t) 5 2) = 0 ∧ fromI (nv (webL t) 12 4) (civM (zI t)) (nv (webL t) 5 2) + (3600 * nv (webL t) 17 2 + 60 * nv (webL t) 20 2 + nv (webL t) 23 2) = t := by
  obtain ⟨_, _, hs, e0, e2, e3, e4, e5⟩ := parseWeb t h0 h1
  have hf := fromI_civ t h0 h1
  refine ⟨hs, ?_, ?_⟩
  · rw [e0, e2]; exact hf.2
  · rw [e0, e2, e3, e4, e5, hf.1]; exact sum_back t h0
end Go.Proofs.YthcndiaomkjjpaaDoor
