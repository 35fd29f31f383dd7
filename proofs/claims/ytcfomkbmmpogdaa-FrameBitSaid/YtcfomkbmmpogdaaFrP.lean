/- Plain laws of chapter 3: what was listed and packed comes back. -/
import Derived.Test.YtcfomkbmmpogdaaFrE
import Derived.Test.YtcfomkbmmpogdaaFrF
set_option linter.unusedVariables false
namespace Go.Proofs.Ytcfomkbmmpogdaa
open Go Go.RowKit

theorem sub_right (a b : List UInt8) (i j : Nat) (h : a.length ≤ i) : sub (a ++ b) i j = sub b (i - a.length) (j - a.length) := by
  unfold sub
  rcases Nat.le_total a.length j with hj | hj
  · rw [List.take_append, List.take_of_length_le hj, List.drop_append, List.drop_eq_nil_of_le h, List.nil_append]
  · have e1 : j - a.length = 0 := by omega
    rw [e1, List.take_zero, List.drop_nil]
    refine List.drop_eq_nil_of_le ?_
    rw [List.length_take]; omega
theorem sub_left (a b : List UInt8) (j : Nat) (h : j = a.length) : sub (a ++ b) 0 j = a := by
  subst h; unfold sub; simp
theorem sub_drop (l : List UInt8) (i : Nat) : sub l i l.length = l.drop i := by unfold sub; simp
theorem r32_U32 (n : Int) (post : List UInt8) (h0 : 0 ≤ n) (h1 : n < 4294967296) : r32 (U32 n ++ post) = n := by
  have e0 : gB (U32 n ++ post) 0 = byteOf (n / 16777216 % 256) := rfl
  have e1 : gB (U32 n ++ post) 1 = byteOf (n / 65536 % 256) := rfl
  have e2 : gB (U32 n ++ post) 2 = byteOf (n / 256 % 256) := rfl
  have e3 : gB (U32 n ++ post) 3 = byteOf (n % 256) := rfl
  unfold r32
  rw [e0, e1, e2, e3, byteOf_int _ (by omega) (by omega), byteOf_int _ (by omega) (by omega), byteOf_int _ (by omega) (by omega), byteOf_int _ (by omega) (by omega)]
  omega
theorem nAt_U32 (a post : List UInt8) (n k : Nat) (hk : k = a.length) (h1 : n < 4294967296) : nAt (a ++ (U32 n ++ post)) k = n := by
  subst hk
  unfold nAt
  rw [sub_drop, List.drop_left, r32_U32 _ _ (by omega) (by omega)]
  omega

theorem splGo_it (l : List UInt8) : ∀ (rest : List (List UInt8)) (a : List UInt8) (acc : List (List UInt8)), l = a ++ itL rest → l.length < 4294967296 →
    splGo l rest.length a.length acc = (acc ++ rest, 0, 0)
  | [], a, acc, hl, hb => by
    have e : l = a := by rw [hl]; simp [itL]
    rw [List.length_nil, splGo, if_neg (by rw [e]; omega), List.append_nil]
  | s :: rest, a, acc, hl, hb => by
    have e1 : itL (s :: rest) = U32 s.length ++ (s ++ itL rest) := by unfold itL; simp
    have hl2 : l = a ++ (U32 s.length ++ (s ++ itL rest)) := by rw [hl, e1]
    have hlen : l.length = a.length + (4 + (s.length + (itL rest).length)) := by rw [hl2]; simp [length_U32]
    have hn : nAt l a.length = s.length := by rw [hl2]; exact nAt_U32 _ _ _ _ rfl (by omega)
    rw [List.length_cons, splGo, hn, if_neg (by omega)]
    have hl3 : l = (a ++ U32 s.length ++ s) ++ itL rest := by rw [hl2]; simp
    have h4 : (a ++ U32 s.length ++ s).length = a.length + 4 + s.length := by simp [length_U32]; omega
    have hs : sub l (a.length + 4) (a.length + 4 + s.length) = s := by
      have hl4 : l = (a ++ U32 s.length) ++ (s ++ itL rest) := by rw [hl2]; simp
      have h5 : (a ++ U32 s.length).length = a.length + 4 := by simp [length_U32]
      rw [hl4, sub_right _ _ _ _ (by omega), h5]
      rw [show a.length + 4 - (a.length + 4) = 0 from by omega]
      exact sub_left _ _ _ (by omega)
    rw [hs, ← h4]
    have := splGo_it l rest (a ++ U32 s.length ++ s) (acc ++ [s]) hl3 hb
    rw [this]; simp
/-- Split of List is the texts. -/
theorem split_list (ls : List (List UInt8)) (h : (listL ls).length < 4294967296) : splitL (listL ls) = (ls, 0, 0) := by
  have hlen : (listL ls).length = 4 + (itL ls).length := by unfold listL; simp [length_U32]
  have h4 : 4 * ls.length ≤ szL ls := szL_len ls
  rw [← itL_length] at h4
  have hn : nAt (listL ls) 0 = ls.length := nAt_U32 [] (itL ls) ls.length 0 rfl (by omega)
  unfold splitL
  rw [hn, if_neg (by omega)]
  have := splGo_it (listL ls) ls (U32 ls.length) [] rfl h
  rw [length_U32] at this
  simpa using this

theorem byteOf_U32 (x : List UInt8) : U32 (r32 x) = [gB x 0, gB x 1, gB x 2, gB x 3] := by
  have b0 := gB_lt x 0
  have b1 := gB_lt x 1
  have b2 := gB_lt x 2
  have b3 := gB_lt x 3
  unfold U32 r32
  rw [show ((((gB x 0).toNat : Int) * 16777216 + ((gB x 1).toNat : Int) * 65536 + ((gB x 2).toNat : Int) * 256 + ((gB x 3).toNat : Int)) / 16777216 % 256) = ((gB x 0).toNat : Int) from by omega,
    show ((((gB x 0).toNat : Int) * 16777216 + ((gB x 1).toNat : Int) * 65536 + ((gB x 2).toNat : Int) * 256 + ((gB x 3).toNat : Int)) / 65536 % 256) = ((gB x 1).toNat : Int) from by omega,
    show ((((gB x 0).toNat : Int) * 16777216 + ((gB x 1).toNat : Int) * 65536 + ((gB x 2).toNat : Int) * 256 + ((gB x 3).toNat : Int)) / 256 % 256) = ((gB x 2).toNat : Int) from by omega,
    show ((((gB x 0).toNat : Int) * 16777216 + ((gB x 1).toNat : Int) * 65536 + ((gB x 2).toNat : Int) * 256 + ((gB x 3).toNat : Int)) % 256) = ((gB x 3).toNat : Int) from by omega,
    byteOf_toNat, byteOf_toNat, byteOf_toNat, byteOf_toNat]
theorem four_take (x : List UInt8) (h : 4 ≤ x.length) : x.take 4 = [gB x 0, gB x 1, gB x 2, gB x 3] := by
  match x, h with
  | a :: b :: c :: d :: t, _ => rfl
theorem U32_nAt (l : List UInt8) (k : Nat) (h : k + 4 ≤ l.length) : U32 (nAt l k) ++ l.drop (k + 4) = l.drop k := by
  have e1 := nAt_r32 l k
  rw [sub_drop] at e1
  rw [← e1, byteOf_U32, ← four_take _ (by rw [List.length_drop]; omega), ← List.drop_drop, List.take_append_drop]
theorem splGo_back (l : List UInt8) : ∀ (c k : Nat) (acc ts : List (List UInt8)), k ≤ l.length → splGo l c k acc = (ts, 0, 0) →
    ∃ rest, ts = acc ++ rest ∧ rest.length = c ∧ l.drop k = itL rest
  | 0, k, acc, ts, hk, h => by
    rw [splGo] at h
    by_cases h1 : k < l.length
    · rw [if_pos h1] at h; simp at h
    · rw [if_neg h1] at h
      obtain rfl : acc = ts := by simpa using h
      exact ⟨[], by simp, rfl, by rw [List.drop_eq_nil_of_le (by omega)]; rfl⟩
  | c + 1, k, acc, ts, hk, h => by
    rw [splGo] at h
    by_cases h1 : l.length < k + 4 ∨ l.length < k + 4 + nAt l k
    · rw [if_pos h1] at h; simp at h
    · rw [if_neg h1] at h
      obtain ⟨rest, e1, e2, e3⟩ := splGo_back l c _ _ ts (by omega) h
      refine ⟨sub l (k + 4) (k + 4 + nAt l k) :: rest, by rw [e1]; simp, by simp [e2], ?_⟩
      have e4 : itL (sub l (k + 4) (k + 4 + nAt l k) :: rest) = U32 (sub l (k + 4) (k + 4 + nAt l k)).length ++ (sub l (k + 4) (k + 4 + nAt l k) ++ itL rest) := by unfold itL; simp
      have hsl : (sub l (k + 4) (k + 4 + nAt l k)).length = nAt l k := by rw [length_sub]; omega
      rw [e4, hsl, ← e3, ← U32_nAt l k (by omega)]
      congr 1
      unfold sub
      rw [List.drop_take, show k + 4 + nAt l k - (k + 4) = nAt l k from by omega]
      have h5 := List.take_append_drop (nAt l k) (l.drop (k + 4))
      rw [List.drop_drop] at h5
      exact h5.symm
/-- List of what Split tells is the text. -/
theorem list_split (l : List UInt8) (ts : List (List UInt8)) (h : splitL l = (ts, 0, 0)) : listL ts = l := by
  unfold splitL at h
  by_cases h1 : l.length < 4 ∨ l.length < 4 + nAt l 0
  · rw [if_pos h1] at h; simp at h
  · rw [if_neg h1] at h
    obtain ⟨rest, e1, e2, e3⟩ := splGo_back l _ _ _ _ (by omega) h
    obtain rfl : ts = rest := by simpa using e1
    unfold listL
    rw [e2, ← e3]
    have := U32_nAt l 0 (by omega)
    simpa using this
theorem split_code (l : List UInt8) : (splitL l).2.1 = 0 ∨ (splitL l).2.1 = 20 ∧ (splitL l).1 = [] := by
  have go : ∀ (c k : Nat) (acc : List (List UInt8)), (splGo l c k acc).2.1 = 0 ∨ (splGo l c k acc).2.1 = 20 ∧ (splGo l c k acc).1 = [] := by
    intro c
    induction c with
    | zero => intro k acc; rw [splGo]; split <;> simp
    | succ c ih =>
      intro k acc
      rw [splGo]
      split
      · simp
      · exact ih _ _
  unfold splitL
  split
  · simp
  · exact go _ _ _
theorem split_zero (l : List UInt8) (h : (splitL l).2.1 = 0) : (splitL l).2.2 = 0 := by
  have go : ∀ (c k : Nat) (acc : List (List UInt8)), (splGo l c k acc).2.1 = 0 → (splGo l c k acc).2.2 = 0 := by
    intro c
    induction c with
    | zero => intro k acc; rw [splGo]; split <;> simp
    | succ c ih =>
      intro k acc
      rw [splGo]
      split
      · simp
      · exact ih _ _
  unfold splitL at h ⊢
  split
  · rfl
  · next h1 => rw [if_neg h1] at h; exact go _ _ _ h
theorem listL_length (ls : List (List UInt8)) : (listL ls).length = 4 + szL ls := by
  unfold listL; rw [List.length_append, length_U32, itL_length]

/-- What was packed is a record, whatever stands behind. -/
theorem packL_length (e n : Int) (p : List UInt8) : ((packL e n p).length : Int) = endsN p.length := by
  unfold packL
  simp only [List.length_append, hdL_length, length_U32, length_zL, List.length_cons, List.length_nil]
  unfold endsN
  omega
theorem packL_unp (e n : Int) (p b : List UInt8) (hr : rightB e n = true) (hp : p.length ≤ 60000) :
    UnpOk (packL e n p ++ b) e n ∧ nAt (packL e n p ++ b) 4 = p.length ∧ sub (packL e n p ++ b) 24 (24 + p.length) = p := by
  obtain ⟨e0, e1, n0, n1⟩ := right_spec hr
  have c1 := (crcMore (crcSum (hdL e n p)) p).isLt
  obtain ⟨z, hz⟩ : ∃ z, z = zL ((endsN p.length).toNat - (24 + p.length)) ++ b := ⟨_, rfl⟩
  have hlen : (packL e n p ++ b).length = (packL e n p).length + b.length := List.length_append
  have hpl := packL_length e n p
  have hE : 24 + (p.length : Int) ≤ endsN p.length := by unfold endsN; omega
  have s1 : packL e n p ++ b = [1, 0, 0, 0] ++ (U32 p.length ++ (tailL e n ++ (U32 ((crcMore (crcSum (hdL e n p)) p).toNat : Int) ++ (p ++ z)))) := by
    rw [hz]; unfold packL hdL tailL; simp
  have s2 : packL e n p ++ b = ([1, 0, 0, 0] ++ U32 p.length) ++ (tailL e n ++ (U32 ((crcMore (crcSum (hdL e n p)) p).toNat : Int) ++ (p ++ z))) := by rw [s1]; simp
  have s3 : packL e n p ++ b = ([1, 0, 0, 0] ++ hdL e n p) ++ (U32 ((crcMore (crcSum (hdL e n p)) p).toNat : Int) ++ (p ++ z)) := by rw [s1]; unfold hdL tailL; simp
  have s4 : packL e n p ++ b = ([1, 0, 0, 0] ++ hdL e n p ++ U32 ((crcMore (crcSum (hdL e n p)) p).toNat : Int)) ++ (p ++ z) := by rw [s3]; simp
  have s5 : packL e n p ++ b = [1, 0, 0, 0] ++ (hdL e n p ++ (U32 ((crcMore (crcSum (hdL e n p)) p).toNat : Int) ++ (p ++ z))) := by rw [s3]; simp
  have hn : nAt (packL e n p ++ b) 4 = p.length := by rw [s1]; exact nAt_U32 _ _ _ _ rfl (by omega)
  have h8 : sub (packL e n p ++ b) 8 20 = tailL e n := by
    rw [s2, sub_right _ _ _ _ (by simp [length_U32])]
    have : ([1, 0, 0, 0] ++ U32 p.length).length = 8 := rfl
    rw [this]
    exact sub_left _ _ _ rfl
  have h4 : sub (packL e n p ++ b) 4 20 = hdL e n p := by
    rw [s5, sub_right _ _ _ _ (by simp)]
    exact sub_left _ _ _ rfl
  have h24 : sub (packL e n p ++ b) 24 (24 + p.length) = p := by
    rw [s4, sub_right _ _ _ _ (by simp [hdL_length, length_U32])]
    have : ([1, 0, 0, 0] ++ hdL e n p ++ U32 ((crcMore (crcSum (hdL e n p)) p).toNat : Int)).length = 24 := rfl
    rw [this]
    rw [show 24 - 24 = 0 from rfl]
    exact sub_left _ _ _ (by omega)
  have h20 : r32 (sub (packL e n p ++ b) 20 (packL e n p ++ b).length) = ((crcMore (crcSum (hdL e n p)) p).toNat : Int) := by
    rw [sub_drop]
    have : ([1, 0, 0, 0] ++ hdL e n p).length = 20 := rfl
    conv => lhs; rw [s3, ← this, List.drop_left]
    exact r32_U32 _ _ (by omega) (by omega)
  refine ⟨⟨hr, by omega, by rw [s1]; rfl, by rw [hn]; exact hp, by rw [hn]; omega, h8, ?_⟩, hn, h24⟩
  rw [h20]
  unfold uCrc
  rw [h4, hn, h24]
end Go.Proofs.Ytcfomkbmmpogdaa
