/- The texts of moments rise with the moments: plain. -/
import Derived.Test.YthcndiaomkjjpaaDoorMoL
set_option linter.unusedVariables false
namespace Go.Proofs.YthcndiaomkjjpaaDoor
open Go Go.RowKit
/-- The one text comes ahead of the other. -/
def LT (x y : List UInt8) : Prop := Op.bytesLess x y = true
theorem LT_cons (a b : UInt8) (x y : List UInt8) : LT (a :: x) (b :: y) ↔ a.toNat < b.toNat ∨ (a = b ∧ LT x y) := by
  unfold LT
  rw [Op.bytesLess]
  simp [UInt8.lt_iff_toNat_lt]
theorem LT_same (a : UInt8) (x y : List UInt8) : LT (a :: x) (a :: y) ↔ LT x y := by rw [LT_cons]; simp
theorem LT_nil (x : List UInt8) : ¬ LT x [] := by unfold LT; cases x <;> simp [Op.bytesLess]
theorem dc_lt (n m : Int) : (dc n).toNat < (dc m).toNat ↔ n % 10 < m % 10 := by have := dc_toNat n; have := dc_toNat m; omega
theorem dc_eq (n m : Int) : dc n = dc m ↔ n % 10 = m % 10 := by
  constructor
  · intro h; have := dc_toNat n; have := dc_toNat m; rw [h] at *; omega
  · intro h; unfold dc; rw [h]
theorem LT_d2 (n m : Int) (x y : List UInt8) (n0 : 0 ≤ n) (n1 : n < 100) (m0 : 0 ≤ m) (m1 : m < 100) : LT (d2 n ++ x) (d2 m ++ y) ↔ n < m ∨ (n = m ∧ LT x y) := by
  show LT (dc (n / 10) :: dc n :: x) (dc (m / 10) :: dc m :: y) ↔ _
  rw [LT_cons, LT_cons, dc_lt, dc_lt, dc_eq, dc_eq]
  by_cases h : LT x y <;> simp only [h, and_true, and_false, or_false] <;> omega
theorem LT_d4 (n m : Int) (x y : List UInt8) (n0 : 0 ≤ n) (n1 : n < 10000) (m0 : 0 ≤ m) (m1 : m < 10000) : LT (d4 n ++ x) (d4 m ++ y) ↔ n < m ∨ (n = m ∧ LT x y) := by
  show LT (dc (n / 1000) :: dc (n / 100) :: dc (n / 10) :: dc n :: x) (dc (m / 1000) :: dc (m / 100) :: dc (m / 10) :: dc m :: y) ↔ _
  rw [LT_cons, LT_cons, LT_cons, LT_cons, dc_lt, dc_lt, dc_lt, dc_lt, dc_eq, dc_eq, dc_eq, dc_eq]
  have e1 : n / 100 / 10 = n / 1000 := by omega
  have e2 : n / 10 / 10 = n / 100 := by omega
  have e3 : m / 100 / 10 = m / 1000 := by omega
  have e4 : m / 10 / 10 = m / 100 := by omega
  have q1 : n / 100 % 10 = n / 100 - 10 * (n / 1000) := by omega
  have q2 : n / 10 % 10 = n / 10 - 10 * (n / 100) := by omega
  have q3 : m / 100 % 10 = m / 100 - 10 * (m / 1000) := by omega
  have q4 : m / 10 % 10 = m / 10 - 10 * (m / 100) := by omega
  have q5 : n / 1000 % 10 = n / 1000 := by omega
  have q6 : m / 1000 % 10 = m / 1000 := by omega
  have q7 : n % 10 = n - 10 * (n / 10) := by omega
  have q8 : m % 10 = m - 10 * (m / 10) := by omega
  have r1 : 0 ≤ n / 100 - 10 * (n / 1000) ∧ n / 100 - 10 * (n / 1000) ≤ 9 := by omega
  have r2 : 0 ≤ n / 10 - 10 * (n / 100) ∧ n / 10 - 10 * (n / 100) ≤ 9 := by omega
  have r3 : 0 ≤ m / 100 - 10 * (m / 1000) ∧ m / 100 - 10 * (m / 1000) ≤ 9 := by omega
  have r4 : 0 ≤ m / 10 - 10 * (m / 100) ∧ m / 10 - 10 * (m / 100) ≤ 9 := by omega
  have r5 : 0 ≤ n - 10 * (n / 10) ∧ n - 10 * (n / 10) ≤ 9 := by omega
  have r6 : 0 ≤ m - 10 * (m / 10) ∧ m - 10 * (m / 10) ≤ 9 := by omega
  rw [q1, q2, q3, q4, q5, q6, q7, q8]
  clear q1 q2 q3 q4 q5 q6 q7 q8 e1 e2 e3 e4
  generalize n / 1000 = na at *
  generalize n / 100 = nb at *
  generalize n / 10 = nc at *
  generalize m / 1000 = ma at *
  generalize m / 100 = mb at *
  generalize m / 10 = mc at *
  by_cases h : LT x y <;> simp only [h, and_true, and_false, or_false] <;> omega
/-- The order of moments, part by part. -/
def Lex (t u : Int) : Prop := civY (zI t) < civY (zI u) ∨ (civY (zI t) = civY (zI u) ∧ (civM (zI t) < civM (zI u) ∨ (civM (zI t) = civM (zI u) ∧ (civD (zI t) < civD (zI u) ∨ (civD (zI t) = civD (zI u) ∧
  (hoI t < hoI u ∨ (hoI t = hoI u ∧ (miI t < miI u ∨ (miI t = miI u ∧ seI t < seI u)))))))))
theorem day_lt (z z' : Int) (h0 : 0 ≤ z) (h1 : 0 ≤ z') (h : civY z < civY z' ∨ (civY z = civY z' ∧ (civM z < civM z' ∨ (civM z = civM z' ∧ civD z < civD z')))) : z < z' := by
  obtain ⟨hc, hk⟩ := civ_is z h0
  obtain ⟨hc', hk'⟩ := civ_is z' h1
  generalize (civM z - 1).toNat = k at *
  generalize (civM z' - 1).toNat = k' at *
  rcases h with h | ⟨hY, h⟩
  · have h2 := hc.hi
    have h3 := hc'.lo
    have h4 : J (civY z + 1) ≤ J (civY z') := by
      rcases Int.lt_or_eq_of_le (show civY z + 1 ≤ civY z' from by omega) with e | e
      · have := J_mono _ _ e; omega
      · rw [e]; exact Int.le_refl _
    omega
  · have h2 := hc.num
    have h3 := hc'.num
    rw [hY] at h2
    rcases h with h | ⟨hM, h⟩
    · have h4 := cum_mono (civY z') (k + 1) k' (by omega)
      have h5 : cumI (civY z') (k + 1) = cumI (civY z') k + longI (civY z') ((k : Int) + 1) := rfl
      have h6 := hc.dhi
      rw [hY] at h6
      have h7 := hc'.dlo
      omega
    · have e : k = k' := by omega
      rw [e] at h2
      omega
theorem lex_lt (t u : Int) (t0 : 0 ≤ t) (u0 : 0 ≤ u) : Lex t u ↔ t < u := by
  have hz : zI t = t / 86400 + 719468 := rfl
  have hz' : zI u = u / 86400 + 719468 := rfl
  have a := day_lt (zI t) (zI u) (by omega) (by omega)
  have b := day_lt (zI u) (zI t) (by omega) (by omega)
  have e : civY (zI t) = civY (zI u) → civM (zI t) = civM (zI u) → civD (zI t) = civD (zI u) → zI t = zI u := by
    intro e1 e2 e3
    have h1 := civ_ok (zI t) (by omega)
    have h2 := civ_ok (zI u) (by omega)
    rw [e1, e2, e3] at h1
    exact h1.2.2.2.2.symm.trans h2.2.2.2.2
  have f : zI t = zI u → civY (zI t) = civY (zI u) ∧ civM (zI t) = civM (zI u) ∧ civD (zI t) = civD (zI u) := by intro h; rw [h]; exact ⟨rfl, rfl, rfl⟩
  unfold Lex hoI miI seI
  generalize civY (zI t) = Y at *
  generalize civM (zI t) = M at *
  generalize civD (zI t) = D at *
  generalize civY (zI u) = Y' at *
  generalize civM (zI u) = M' at *
  generalize civD (zI u) = D' at *
  rw [hz, hz'] at a b e f
  clear hz hz'
  by_cases h1 : t / 86400 < u / 86400
  · have h2 : ¬ (Y' < Y ∨ (Y' = Y ∧ (M' < M ∨ (M' = M ∧ D' < D)))) := fun h => by have := b h; omega
    have h3 : ¬ (Y = Y' ∧ M = M' ∧ D = D') := fun h => by have := e h.1 h.2.1 h.2.2; omega
    omega
  · by_cases h2 : t / 86400 = u / 86400
    · obtain ⟨f1, f2, f3⟩ := f (by omega)
      subst f1 f2 f3
      omega
    · have h2 : ¬ (Y < Y' ∨ (Y = Y' ∧ (M < M' ∨ (M = M' ∧ D < D')))) := fun h => by have := a h; omega
      have h3 : ¬ (Y = Y' ∧ M = M' ∧ D = D') := fun h => by have := e h.1 h.2.1 h.2.2; omega
      omega
theorem stamp_lt (t u : Int) (t0 : 0 ≤ t) (t1 : t ≤ 253402300799) (u0 : 0 ≤ u) (u1 : u ≤ 253402300799) : LT (stampL t) (stampL u) ↔ t < u := by
  obtain ⟨⟨y0, y1⟩, ⟨m0, m1⟩, ⟨d0, d1⟩, ⟨o0, o1⟩, ⟨i0, i1⟩, ⟨s0, s1⟩⟩ := parts_bd t t0 t1
  obtain ⟨⟨y0', y1'⟩, ⟨m0', m1'⟩, ⟨d0', d1'⟩, ⟨o0', o1'⟩, ⟨i0', i1'⟩, ⟨s0', s1'⟩⟩ := parts_bd u u0 u1
  rw [← lex_lt t u t0 u0]
  unfold stampL Lex
  simp only [List.append_assoc, List.cons_append, List.nil_append]
  rw [LT_d4 _ _ _ _ (by omega) (by omega) (by omega) (by omega), LT_d2 _ _ _ _ (by omega) (by omega) (by omega) (by omega), LT_d2 _ _ _ _ (by omega) (by omega) (by omega) (by omega), LT_same, LT_d2 _ _ _ _ (by omega) (by omega) (by omega) (by omega),
    LT_d2 _ _ _ _ (by omega) (by omega) (by omega) (by omega), LT_d2 _ _ _ _ (by omega) (by omega) (by omega) (by omega), LT_same]
  simp [LT_nil]
theorem long_lt (t u : Int) (t0 : 0 ≤ t) (t1 : t ≤ 253402300799) (u0 : 0 ≤ u) (u1 : u ≤ 253402300799) : LT (longL t) (longL u) ↔ t < u := by
  obtain ⟨⟨y0, y1⟩, ⟨m0, m1⟩, ⟨d0, d1⟩, ⟨o0, o1⟩, ⟨i0, i1⟩, ⟨s0, s1⟩⟩ := parts_bd t t0 t1
  obtain ⟨⟨y0', y1'⟩, ⟨m0', m1'⟩, ⟨d0', d1'⟩, ⟨o0', o1'⟩, ⟨i0', i1'⟩, ⟨s0', s1'⟩⟩ := parts_bd u u0 u1
  rw [← lex_lt t u t0 u0]
  unfold longL Lex
  simp only [List.append_assoc, List.cons_append, List.nil_append]
  rw [LT_d4 _ _ _ _ (by omega) (by omega) (by omega) (by omega), LT_same, LT_d2 _ _ _ _ (by omega) (by omega) (by omega) (by omega), LT_same, LT_d2 _ _ _ _ (by omega) (by omega) (by omega) (by omega), LT_same, LT_d2 _ _ _ _ (by omega) (by omega) (by omega) (by omega),
    LT_same, LT_d2 _ _ _ _ (by omega) (by omega) (by omega) (by omega), LT_same, LT_d2 _ _ _ _ (by omega) (by omega) (by omega) (by omega), LT_same, LT_same, LT_same, LT_same, LT_same]
  simp [LT_nil]
theorem stamp_inj (t u : Int) (t0 : 0 ≤ t) (t1 : t ≤ 253402300799) (u0 : 0 ≤ u) (u1 : u ≤ 253402300799) : stampL t = stampL u ↔ t = u := by
  constructor
  · intro h
    have a := (readyStamp t t0 t1).2.2
    have b := (readyStamp u u0 u1).2.2
    rw [h] at a
    exact a.symm.trans b
  · intro h; rw [h]
end Go.Proofs.YthcndiaomkjjpaaDoor
