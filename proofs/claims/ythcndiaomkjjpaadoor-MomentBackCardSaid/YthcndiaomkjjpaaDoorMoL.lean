/- What is read of a stamp, of a long text. -/
import Derived.Test.YthcndiaomkjjpaaDoorMoK
set_option linter.unusedVariables false
namespace Go.Proofs.YthcndiaomkjjpaaDoor
open Go Go.RowKit
theorem dc_range (n : Int) : 48 ≤ (dc n).toNat ∧ (dc n).toNat ≤ 57 := by have := dc_toNat n; omega
theorem numK_1 (l : List UInt8) (a k : Nat) (x n : Int) (h : numK l a k = some x) (hl : a + k < l.length) (hg : gB l (a + k) = dc n) : numK l a (k + 1) = some (10 * x + n % 10) := by
  have hr := dc_range n
  have ht := dc_toNat n
  rw [numK_step l a k x h hl (by rw [hg]; exact hr.1) (by rw [hg]; exact hr.2), hg]
  congr 1
  omega
theorem numK_d2 (l : List UInt8) (a : Nat) (n : Int) (h0 : 0 ≤ n) (h1 : n < 100) (hl : a + 1 < l.length) (g0 : gB l a = dc (n / 10)) (g1 : gB l (a + 1) = dc n) : numK l a 2 = some n := by
  have s0 : numK l a 0 = some 0 := rfl
  have s1 := numK_1 l a 0 0 (n / 10) s0 (by omega) g0
  have s2 := numK_1 l a 1 _ n s1 (by omega) g1
  rw [s2]
  congr 1
  omega
theorem numK_d4 (l : List UInt8) (a : Nat) (n : Int) (h0 : 0 ≤ n) (h1 : n < 10000) (hl : a + 3 < l.length) (g0 : gB l a = dc (n / 1000)) (g1 : gB l (a + 1) = dc (n / 100)) (g2 : gB l (a + 2) = dc (n / 10)) (g3 : gB l (a + 3) = dc n) : numK l a 4 = some n := by
  have s0 : numK l a 0 = some 0 := rfl
  have s1 := numK_1 l a 0 0 (n / 1000) s0 (by omega) g0
  have s2 := numK_1 l a 1 _ (n / 100) s1 (by omega) g1
  have s3 := numK_1 l a 2 _ (n / 10) s2 (by omega) g2
  have s4 := numK_1 l a 3 _ n s3 (by omega) g3
  rw [s4]
  congr 1
  omega
theorem vld_civ (t : Int) (h0 : 0 ≤ t) (h1 : t ≤ 253402300799) : vldB (civY (zI t)) (civM (zI t)) (civD (zI t)) = true := by
  obtain ⟨⟨y0, y1⟩, ⟨m0, m1⟩, ⟨d0, d1⟩, _⟩ := parts_bd t h0 h1
  have h := civ_ok (zI t) (by unfold zI; omega)
  exact decide_eq_true ⟨y0, y1, m0, m1, d0, h.2.2.2.1⟩
theorem fromI_civ (t : Int) (h0 : 0 ≤ t) (h1 : t ≤ 253402300799) : fromI (civY (zI t)) (civM (zI t)) (civD (zI t)) = t / 86400 * 86400 ∧ fromE (civY (zI t)) (civM (zI t)) (civD (zI t)) = 0 := by
  have hv := vld_civ t h0 h1
  have h := civ_ok (zI t) (by unfold zI; omega)
  unfold fromI fromE
  rw [if_pos hv, if_pos hv, h.2.2.2.2]
  exact ⟨by unfold zI; omega, rfl⟩
theorem sum_back (t : Int) (h0 : 0 ≤ t) : t / 86400 * 86400 + (3600 * hoI t + 60 * miI t + seI t) = t := by unfold hoI miI seI; omega
def posS : List (Int × Int) := [(0, 4), (4, 2), (6, 2), (9, 2), (11, 2), (13, 2)]
def posL : List (Int × Int) := [(0, 4), (5, 2), (8, 2), (11, 2), (14, 2), (17, 2)]
set_option maxHeartbeats 2000000 in
theorem parseStamp (t : Int) (h0 : 0 ≤ t) (h1 : t ≤ 253402300799) : (∀ a k : Int, (a, k) ∈ posS → (numK (stampL t) a.toNat k.toNat).isSome = true) ∧ nv (stampL t) 0 4 = civY (zI t) ∧ nv (stampL t) 4 2 = civM (zI t) ∧ nv (stampL t) 6 2 = civD (zI t) ∧ nv (stampL t) 9 2 = hoI t ∧ nv (stampL t) 11 2 = miI t ∧ nv (stampL t) 13 2 = seI t := by
  obtain ⟨⟨y0, y1⟩, ⟨m0, m1⟩, ⟨d0, d1⟩, ⟨o0, o1⟩, ⟨i0, i1⟩, ⟨s0, s1⟩⟩ := parts_bd t h0 h1
  have hl : (stampL t).length = 16 := rfl
  have n0 := numK_d4 (stampL t) 0 (civY (zI t)) (by omega) (by omega) (by omega) rfl rfl rfl rfl
  have n1 := numK_d2 (stampL t) 4 (civM (zI t)) (by omega) (by omega) (by omega) rfl rfl
  have n2 := numK_d2 (stampL t) 6 (civD (zI t)) (by omega) (by omega) (by omega) rfl rfl
  have n3 := numK_d2 (stampL t) 9 (hoI t) (by omega) (by omega) (by omega) rfl rfl
  have n4 := numK_d2 (stampL t) 11 (miI t) (by omega) (by omega) (by omega) rfl rfl
  have n5 := numK_d2 (stampL t) 13 (seI t) (by omega) (by omega) (by omega) rfl rfl
  refine ⟨?_, ?_, ?_, ?_, ?_, ?_, ?_⟩
  · intro a k h
    simp only [posS, List.mem_cons, Prod.mk.injEq, List.not_mem_nil, or_false] at h
    rcases h with ⟨rfl, rfl⟩ | ⟨rfl, rfl⟩ | ⟨rfl, rfl⟩ | ⟨rfl, rfl⟩ | ⟨rfl, rfl⟩ | ⟨rfl, rfl⟩
    · exact congrArg Option.isSome n0
    · exact congrArg Option.isSome n1
    · exact congrArg Option.isSome n2
    · exact congrArg Option.isSome n3
    · exact congrArg Option.isSome n4
    · exact congrArg Option.isSome n5
  · exact congrArg (Option.getD · 0) n0
  · exact congrArg (Option.getD · 0) n1
  · exact congrArg (Option.getD · 0) n2
  · exact congrArg (Option.getD · 0) n3
  · exact congrArg (Option.getD · 0) n4
  · exact congrArg (Option.getD · 0) n5
set_option maxHeartbeats 2000000 in
theorem parseLong (t : Int) (h0 : 0 ≤ t) (h1 : t ≤ 253402300799) : (∀ a k : Int, (a, k) ∈ posL → (numK (longL t) a.toNat k.toNat).isSome = true) ∧ nv (longL t) 0 4 = civY (zI t) ∧ nv (longL t) 5 2 = civM (zI t) ∧ nv (longL t) 8 2 = civD (zI t) ∧ nv (longL t) 11 2 = hoI t ∧ nv (longL t) 14 2 = miI t ∧ nv (longL t) 17 2 = seI t := by
  obtain ⟨⟨y0, y1⟩, ⟨m0, m1⟩, ⟨d0, d1⟩, ⟨o0, o1⟩, ⟨i0, i1⟩, ⟨s0, s1⟩⟩ := parts_bd t h0 h1
  have hl : (longL t).length = 24 := rfl
  have n0 := numK_d4 (longL t) 0 (civY (zI t)) (by omega) (by omega) (by omega) rfl rfl rfl rfl
  have n1 := numK_d2 (longL t) 5 (civM (zI t)) (by omega) (by omega) (by omega) rfl rfl
  have n2 := numK_d2 (longL t) 8 (civD (zI t)) (by omega) (by omega) (by omega) rfl rfl
  have n3 := numK_d2 (longL t) 11 (hoI t) (by omega) (by omega) (by omega) rfl rfl
  have n4 := numK_d2 (longL t) 14 (miI t) (by omega) (by omega) (by omega) rfl rfl
  have n5 := numK_d2 (longL t) 17 (seI t) (by omega) (by omega) (by omega) rfl rfl
  refine ⟨?_, ?_, ?_, ?_, ?_, ?_, ?_⟩
  · intro a k h
    simp only [posL, List.mem_cons, Prod.mk.injEq, List.not_mem_nil, or_false] at h
    rcases h with ⟨rfl, rfl⟩ | ⟨rfl, rfl⟩ | ⟨rfl, rfl⟩ | ⟨rfl, rfl⟩ | ⟨rfl, rfl⟩ | ⟨rfl, rfl⟩
    · exact congrArg Option.isSome n0
    · exact congrArg Option.isSome n1
    · exact congrArg Option.isSome n2
    · exact congrArg Option.isSome n3
    · exact congrArg Option.isSome n4
    · exact congrArg Option.isSome n5
  · exact congrArg (Option.getD · 0) n0
  · exact congrArg (Option.getD · 0) n1
  · exact congrArg (Option.getD · 0) n2
  · exact congrArg (Option.getD · 0) n3
  · exact congrArg (Option.getD · 0) n4
  · exact congrArg (Option.getD · 0) n5
theorem readyStamp (t : Int) (h0 : 0 ≤ t) (h1 : t ≤ 253402300799) : (∀ a k : Int, (a, k) ∈ posS → (numK (stampL t) a.toNat k.toNat).isSome = true) ∧ fromE (nv (stampL t) 0 4) (nv (stampL t) 4 2) (nv (stampL t) 6 2) = 0 ∧ fromI (nv (stampL t) 0 4) (nv (stampL t) 4 2) (nv (stampL t) 6 2) + (3600 * nv (stampL t) 9 2 + 60 * nv (stampL t) 11 2 + nv (stampL t) 13 2) = t := by
  obtain ⟨hs, e0, e1, e2, e3, e4, e5⟩ := parseStamp t h0 h1
  have hf := fromI_civ t h0 h1
  refine ⟨hs, ?_, ?_⟩
  · rw [e0, e1, e2]; exact hf.2
  · rw [e0, e1, e2, e3, e4, e5, hf.1]; exact sum_back t h0
theorem readyLong (t : Int) (h0 : 0 ≤ t) (h1 : t ≤ 253402300799) : (∀ a k : Int, (a, k) ∈ posL → (numK (longL t) a.toNat k.toNat).isSome = true) ∧ fromE (nv (longL t) 0 4) (nv (longL t) 5 2) (nv (longL t) 8 2) = 0 ∧ fromI (nv (longL t) 0 4) (nv (longL t) 5 2) (nv (longL t) 8 2) + (3600 * nv (longL t) 11 2 + 60 * nv (longL t) 14 2 + nv (longL t) 17 2) = t := by
  obtain ⟨hs, e0, e1, e2, e3, e4, e5⟩ := parseLong t h0 h1
  have hf := fromI_civ t h0 h1
  refine ⟨hs, ?_, ?_⟩
  · rw [e0, e1, e2]; exact hf.2
  · rw [e0, e1, e2, e3, e4, e5, hf.1]; exact sum_back t h0
end Go.Proofs.YthcndiaomkjjpaaDoor
