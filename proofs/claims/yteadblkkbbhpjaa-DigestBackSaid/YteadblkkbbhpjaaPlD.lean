/- Base 64, plain: what is read is what would be written. -/
import Derived.Test.YteadblkkbbhpjaaPlB
set_option linter.unusedVariables false
namespace Go.Proofs.Yteadblkkbbhpjaa
open Go Go.RowKit
theorem scan_inv (l : List UInt8) (a : Nat) (la : Bool) (W m : Nat) (h : scanU l a la 4 0 0 0 = .inr (W, m)) :
    a + 4 ≤ l.length ∧ 0 ≤ sixI (gB l (a + 0)) ∧ 0 ≤ sixI (gB l (a + 1)) ∧
    ((m = 4 ∧ 0 ≤ sixI (gB l (a + 2)) ∧ 0 ≤ sixI (gB l (a + 3)) ∧ W = dN l (a + 0) * 262144 + dN l (a + 1) * 4096 + dN l (a + 2) * 64 + dN l (a + 3)) ∨
     (m = 3 ∧ la = true ∧ 0 ≤ sixI (gB l (a + 2)) ∧ gB l (a + 3) = 61 ∧ W = dN l (a + 0) * 262144 + dN l (a + 1) * 4096 + dN l (a + 2) * 64) ∨
     (m = 2 ∧ la = true ∧ gB l (a + 2) = 61 ∧ gB l (a + 3) = 61 ∧ W = dN l (a + 0) * 262144 + dN l (a + 1) * 4096)) := by
  by_cases c0 : l.length ≤ a + 0
  · rw [scanU, if_pos c0] at h; cases h
  rw [scanU, if_neg c0] at h
  by_cases d0 : 0 ≤ sixI (gB l (a + 0))
  case neg => rw [if_neg (fun e => d0 e.1), if_neg (fun e => by omega)] at h; cases h
  rw [if_pos ⟨d0, rfl⟩] at h
  by_cases c1 : l.length ≤ a + 1
  · rw [scanU, if_pos c1] at h; cases h
  rw [scanU, if_neg c1] at h
  by_cases d1 : 0 ≤ sixI (gB l (a + 1))
  case neg => rw [if_neg (fun e => d1 e.1), if_neg (fun e => by omega)] at h; cases h
  rw [if_pos ⟨d1, rfl⟩] at h
  by_cases c2 : l.length ≤ a + 2
  · rw [scanU, if_pos c2] at h; cases h
  rw [scanU, if_neg c2] at h
  by_cases d2 : 0 ≤ sixI (gB l (a + 2))
  · rw [if_pos ⟨d2, rfl⟩] at h
    by_cases c3 : l.length ≤ a + 3
    · rw [scanU, if_pos c3] at h; cases h
    rw [scanU, if_neg c3] at h
    by_cases d3 : 0 ≤ sixI (gB l (a + 3))
    · rw [if_pos ⟨d3, rfl⟩, scanU] at h
      simp only [Sum.inr.injEq, Prod.mk.injEq] at h
      refine ⟨by omega, d0, d1, .inl ⟨h.2.symm, d2, d3, ?_⟩⟩
      rw [← h.1]; simp [dN]
    · rw [if_neg (fun e => d3 e.1)] at h
      by_cases p3 : gB l (a + 3) = 61 ∧ la = true ∧ 2 ≤ 3
      · rw [if_pos p3, scanU] at h
        simp only [Sum.inr.injEq, Prod.mk.injEq] at h
        refine ⟨by omega, d0, d1, .inr (.inl ⟨h.2.symm, p3.2.1, d2, p3.1, ?_⟩)⟩
        rw [← h.1]; simp [dN]
      · rw [if_neg p3] at h; cases h
  · rw [if_neg (fun e => d2 e.1)] at h
    by_cases p2 : gB l (a + 2) = 61 ∧ la = true ∧ 2 ≤ 2
    · rw [if_pos p2] at h
      by_cases c3 : l.length ≤ a + 3
      · rw [scanU, if_pos c3] at h; cases h
      rw [scanU, if_neg c3, if_neg (fun e => by omega)] at h
      by_cases p3 : gB l (a + 3) = 61 ∧ la = true ∧ 2 ≤ 3
      · rw [if_pos p3, scanU] at h
        simp only [Sum.inr.injEq, Prod.mk.injEq] at h
        refine ⟨by omega, d0, d1, .inr (.inr ⟨h.2.symm, p3.2.1, p2.1, p3.1, ?_⟩)⟩
        rw [← h.1]; simp [dN]
      · rw [if_neg p3] at h; cases h
    · rw [if_neg p2] at h; cases h
theorem dN_lt (l : List UInt8) (i : Nat) : dN l i < 64 := by unfold dN; have := (sixI_bd (gB l i)).2; omega
theorem dN_d (l : List UInt8) (i : Nat) (h : 0 ≤ sixI (gB l i)) : gB b64d (dN l i) = gB l i := b64d_I _ h
/-- The bytes of a number are that number. -/
theorem w24_out (W n : Nat) (hW : W < 16777216) (h1 : 1 ≤ n) (h3 : n ≤ 3) (hz : W * 2 ^ (8 * n) % 16777216 = 0) : w24 (outU W n) = W := by
  have hb : ∀ x : Nat, x < 256 → (byteOf (x : Int)).toNat = x := by
    intro x hx
    have := byteOf_int (x : Int) (by omega) (by omega)
    omega
  obtain rfl | rfl | rfl : n = 1 ∨ n = 2 ∨ n = 3 := by omega
  · have e : w24 (outU W 1) = (byteOf ((W / 2 ^ (16 - 8 * 0) % 256 : Nat) : Int)).toNat * 65536 + 0 * 256 + 0 := rfl
    rw [e, hb _ (by omega)]
    omega
  · have e : w24 (outU W 2) = (byteOf ((W / 2 ^ (16 - 8 * 0) % 256 : Nat) : Int)).toNat * 65536 + (byteOf ((W / 2 ^ (16 - 8 * 1) % 256 : Nat) : Int)).toNat * 256 + 0 := rfl
    rw [e, hb _ (by omega), hb _ (by omega)]
    omega
  · have e : w24 (outU W 3) = (byteOf ((W / 2 ^ (16 - 8 * 0) % 256 : Nat) : Int)).toNat * 65536 + (byteOf ((W / 2 ^ (16 - 8 * 1) % 256 : Nat) : Int)).toNat * 256 + (byteOf ((W / 2 ^ (16 - 8 * 2) % 256 : Nat) : Int)).toNat := rfl
    rw [e, hb _ (by omega), hb _ (by omega), hb _ (by omega)]
    omega
theorem four_list (l : List UInt8) (a : Nat) (h : a + 4 ≤ l.length) : l.take (a + 4) = l.take a ++ [gB l (a + 0), gB l (a + 1), gB l (a + 2), gB l (a + 3)] := by
  rw [List.take_add]
  congr 1
  apply ext_gB
  · simp; omega
  · intro i hi
    have hi4 : i < 4 := by simp at hi; omega
    have e : gB ((l.drop a).take 4) i = gB l (a + i) := by
      unfold gB
      simp only [List.getD]
      rw [List.getElem?_take, if_pos hi4, List.getElem?_drop]
    rw [e]
    obtain rfl | rfl | rfl | rfl : i = 0 ∨ i = 1 ∨ i = 2 ∨ i = 3 := by omega
    all_goals rfl
theorem fourL_app (r x : List UInt8) (h : 3 ≤ r.length) : fourL (r ++ x) = fourL r := by
  have g : ∀ i, i < 3 → gB (r ++ x) i = gB r i := by
    intro i hi
    unfold gB
    simp only [List.getD]
    rw [List.getElem?_append_left (by omega)]
  rw [four_3 r h, four_3 (r ++ x) (by rw [List.length_append]; omega)]
  unfold w24
  rw [g 0 (by omega), g 1 (by omega), g 2 (by omega)]
theorem b64L_app (acc x : List UInt8) (j : Nat) (h : 3 * j ≤ acc.length) : b64L (acc ++ x) j = b64L acc j := by
  induction j with
  | zero => simp [b64L]
  | succ j ih =>
    rw [b64L_succ, b64L_succ, ih (by omega), List.drop_append_of_le_length (by omega), fourL_app _ _ (by simp; omega)]
theorem b64_unb_go (s d : List UInt8) (at_ : Int) (n : Nat) (hn : n = (s.length + 3) / 4) (f : Nat) : ∀ (j : Nat) (acc : List UInt8), j + f = n → acc.length = 3 * j → b64L acc j = s.take (4 * j) → unGo s f (4 * j) acc = (d, 0, at_) → base64L d = s := by
  induction f with
  | zero =>
    intro j acc hj hal hb h
    rw [unGo] at h
    have hd : acc = d := congrArg Prod.fst h
    subst hd
    unfold base64L
    rw [hal, show (3 * j + 2) / 3 = j from by omega, hb, List.take_of_length_le (by omega)]
  | succ f ih =>
    intro j acc hj hal hb h
    rw [unGo] at h
    cases hs : scanU s (4 * j) (decide (s.length ≤ 4 * j + 4)) 4 0 0 0 with
    | inl p => rw [hs] at h; simp at h
    | inr Wm =>
      obtain ⟨W, m⟩ := Wm
      rw [hs] at h
      simp only at h
      by_cases hz : W * 2 ^ (8 * (m - 1)) % 16777216 = 0
      case neg => rw [if_pos hz] at h; simp at h
      case pos =>
        rw [if_neg (fun e => e hz)] at h
        obtain ⟨h4, p0, p1, hm⟩ := scan_inv _ _ _ _ _ hs
        have q0 := dN_lt s (4 * j + 0)
        have q1 := dN_lt s (4 * j + 1)
        have q2 := dN_lt s (4 * j + 2)
        have q3 := dN_lt s (4 * j + 3)
        have hda : (acc ++ outU W (m - 1)).drop (3 * j) = outU W (m - 1) := by rw [← hal, List.drop_left]
        have hbj : b64L (acc ++ outU W (m - 1)) (j + 1) = s.take (4 * j) ++ fourL (outU W (m - 1)) := by
          rw [b64L_succ, b64L_app _ _ _ (by omega), hb, hda]
        have hfl := four_list s (4 * j) h4
        rcases hm with ⟨rfl, p2, p3, hW⟩ | ⟨rfl, hla, p2, p3, hW⟩ | ⟨rfl, hla, p2, p3, hW⟩
        · have hWl : W < 16777216 := by omega
          have hfo : fourL (outU W (4 - 1)) = [gB s (4 * j + 0), gB s (4 * j + 1), gB s (4 * j + 2), gB s (4 * j + 3)] := by
            rw [four_3 _ (by rw [outU_length]; omega), w24_out W 3 hWl (by omega) (by omega) hz]
            unfold four0
            rw [show W / 262144 = dN s (4 * j + 0) from by omega, show W / 4096 % 64 = dN s (4 * j + 1) from by omega, show W / 64 % 64 = dN s (4 * j + 2) from by omega, show W % 64 = dN s (4 * j + 3) from by omega]
            rw [dN_d _ _ p0, dN_d _ _ p1, dN_d _ _ p2, dN_d _ _ p3]
          refine ih (j + 1) (acc ++ outU W (4 - 1)) (by omega) (by rw [List.length_append, outU_length]; omega) ?_ (by rw [show 4 * (j + 1) = 4 * j + 4 from by omega]; exact h)
          rw [hbj, hfo, show 4 * (j + 1) = 4 * j + 4 from by omega, hfl]
        · have hWl : W < 16777216 := by omega
          have hend : s.length ≤ 4 * j + 4 := of_decide_eq_true hla
          have hf0 : f = 0 := by omega
          subst hf0
          rw [unGo] at h
          have hd : acc ++ outU W (3 - 1) = d := congrArg Prod.fst h
          subst hd
          have hfo : fourL (outU W (3 - 1)) = [gB s (4 * j + 0), gB s (4 * j + 1), gB s (4 * j + 2), gB s (4 * j + 3)] := by
            rw [four_2 _ (by rw [outU_length]), w24_out W 2 hWl (by omega) (by omega) hz, p3]
            unfold four0
            rw [show W / 262144 = dN s (4 * j + 0) from by omega, show W / 4096 % 64 = dN s (4 * j + 1) from by omega, show W / 64 % 64 = dN s (4 * j + 2) from by omega]
            rw [dN_d _ _ p0, dN_d _ _ p1, dN_d _ _ p2]
            rfl
          unfold base64L
          rw [List.length_append, outU_length, hal, show (3 * j + (3 - 1) + 2) / 3 = j + 1 from by omega, hbj, hfo, ← hfl, List.take_of_length_le (by omega)]
        · have hWl : W < 16777216 := by omega
          have hend : s.length ≤ 4 * j + 4 := of_decide_eq_true hla
          have hf0 : f = 0 := by omega
          subst hf0
          rw [unGo] at h
          have hd : acc ++ outU W (2 - 1) = d := congrArg Prod.fst h
          subst hd
          have hfo : fourL (outU W (2 - 1)) = [gB s (4 * j + 0), gB s (4 * j + 1), gB s (4 * j + 2), gB s (4 * j + 3)] := by
            rw [four_1 _ (by rw [outU_length]), w24_out W 1 hWl (by omega) (by omega) hz, p2, p3]
            unfold four0
            rw [show W / 262144 = dN s (4 * j + 0) from by omega, show W / 4096 % 64 = dN s (4 * j + 1) from by omega]
            rw [dN_d _ _ p0, dN_d _ _ p1]
            rfl
          unfold base64L
          rw [List.length_append, outU_length, hal, show (3 * j + (2 - 1) + 2) / 3 = j + 1 from by omega, hbj, hfo, ← hfl, List.take_of_length_le (by omega)]
theorem b64_unb (s d : List UInt8) (at_ : Int) (h : unbase64L s = (d, 0, at_)) : base64L d = s :=
  b64_unb_go s d at_ _ rfl _ 0 [] (by omega) rfl rfl h
end Go.Proofs.Yteadblkkbbhpjaa
