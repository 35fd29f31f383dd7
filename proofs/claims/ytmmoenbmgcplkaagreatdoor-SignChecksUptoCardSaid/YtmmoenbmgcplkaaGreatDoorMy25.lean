/- Texts of this proof, laid into one: UrW, OpS, Sjt. -/
import Derived.Test.YtmmoenbmgcplkaaGreatDoorMy24
import Derived.Test.YtmmoenbmgcplkaaGreatDoorRows
import Derived.SizedLaws
import Derived.Deep.Slices
set_option linter.unusedVariables false
namespace Go.Proofs.YtmmoenbmgcplkaaGreatDoor
open Go Go.RowKit Go.ChangeShapes Go.WideShapes Go.Deep
theorem list2 {α : Type} {l : List α} (h : l.length = 2) : ∃ a b, l = [a, b] := by
  match l, h with
  | [a, b], _ => exact ⟨a, b, rfl⟩
theorem str_back (s : ByteArray) : Value.string s = .string ⟨s.data.toList.toArray⟩ := by cases s; rfl
theorem trod_struct2 {H : Type} {enc : TypeId × Value → H} {P : Program} {w : World} {base : Nat} {spare : Nat → Bool} {held : Bool} {t : TypeId} {f0 f1 : Field} {fuel : Nat} {cs : List Value} {x : DataW H × List MemPlace} (ht : P.underlying t = some (.struct #[f0, f1])) (h : DataW.trod enc P w base spare held fuel t cs = some x) :
    ∃ y0 y1 n, x.1 = .agg [y0.1, y1.1] ∧ cs.length = P.cellsOf t ∧ DataW.trod enc P w base spare held n f0.type ((cs.drop f0.offset).take (P.cellsOf f0.type)) = some y0 ∧
      DataW.trod enc P w base spare held n f1.type ((cs.drop f1.offset).take (P.cellsOf f1.type)) = some y1 := by
  obtain ⟨xs, n, _, rfl, hl, hlen, hf⟩ := DataW.trod_struct ht h
  obtain ⟨y0, y1, rfl⟩ := list2 (hlen.trans rfl)
  exact ⟨y0, y1, n, by simp, hl, by simpa using hf 0 f0 rfl, by simpa using hf 1 f1 rfl⟩
section
variable {H : Type} {enc : TypeId × Value → H} {W : World} {sp : Nat → Bool} {hd : Bool}
def pairDat (p : PairD) : DataW H := .agg [.lit (.string p.1), .lit (.string p.2)]
theorem str_of {fuel : Nat} {c : Value} {y : DataW H × List MemPlace} (h : DataW.trod enc Tryz.prog W 0 sp hd fuel 9 [c] = some y) : ∃ s : List UInt8, c = .string ⟨s.toArray⟩ ∧ y.1 = .lit (.string s) := by
  obtain ⟨s, e, e2, _⟩ := DataW.trod_string Tryz.underlying9 h
  have e' : c = .string s := by simpa using e
  exact ⟨s.data.toList, e'.trans (str_back s), by rw [e2]⟩
theorem pair_of {fuel : Nat} {cs : List Value} {y : DataW H × List MemPlace} (h : DataW.trod enc Tryz.prog W 0 sp hd fuel 37 cs = some y) : ∃ p : PairD, cs = pairL p ∧ y.1 = pairDat p := by
  obtain ⟨y0, y1, n, hx, hl, g0, g1⟩ := trod_struct2 Tryz.underlying37 h
  have hc : Tryz.prog.cellsOf 37 = 2 := by kernel_rfl
  have hs : Tryz.prog.cellsOf 9 = 1 := by kernel_rfl
  rw [hc] at hl
  obtain ⟨c0, c1, rfl⟩ := list2 hl
  simp only [hs, List.drop_zero, List.drop_succ_cons, List.take_succ_cons, List.take_zero] at g0 g1
  obtain ⟨s0, rfl, x0⟩ := str_of g0
  obtain ⟨s1, rfl, x1⟩ := str_of g1
  exact ⟨(s0, s1), rfl, by rw [hx, x0, x1]; rfl⟩
theorem bulk_all {d : DataW H} {l : List (DataW H)} (h : d ∈ l) : Rows.uptoBulk d ≤ Rows.uptoBulkAll l := by
  induction l with
  | nil => cases h
  | cons a r ih =>
    simp only [Rows.uptoBulkAll]
    rcases List.mem_cons.1 h with h | h
    · subst h; omega
    · have := ih h; omega
theorem bulk_pos (d : DataW H) : 1 ≤ Rows.uptoBulk d := by
  cases d with
  | lit l => cases l <;> simp [Rows.uptoBulk]
  | _ => simp [Rows.uptoBulk]
theorem bulk_len (l : List (DataW H)) : l.length ≤ Rows.uptoBulkAll l := by
  induction l with
  | nil => simp
  | cons a r ih => have := bulk_pos a; simp only [Rows.uptoBulkAll, List.length_cons]; omega
theorem pair_bulk (p : PairD) : Rows.uptoBulk (pairDat (H := H) p) = p.1.length + 1 + (p.2.length + 1) + 1 := by
  simp [pairDat, Rows.uptoBulk, Rows.uptoBulkAll]
theorem bulk_heavy (ps : List PairD) : Rows.uptoBulkAll (H := H) (ps.map pairDat) = (ps.map fun p => p.1.length + p.2.length + 3).sum := by
  induction ps with
  | nil => simp [Rows.uptoBulkAll]
  | cons p r ih => simp only [List.map_cons, List.sum_cons, Rows.uptoBulkAll, pair_bulk, ih]; omega
theorem pairs_of {fuel : Nat} {A : Option Addr} {len cap : Nat} {y : DataW H × List MemPlace} (h : DataW.trod enc Tryz.prog W 0 (fun _ => true) hd fuel 22 [.slice A len cap] = some y) (hB : Rows.uptoBulk y.1 ≤ 1048576) (hz : ∀ x ∈ y.1.weights Tryz.prog 22, x ≤ reachBytes) :
    ∃ ps, PairsAt W A len ps ∧ (∀ p ∈ ps, p.1.length ≤ 1048576 ∧ p.2.length ≤ 1048576) ∧ len ≤ 1048576 ∧ len ≤ cap ∧ cap ≤ 5000000000000 ∧ (ps.map fun p => p.1.length + p.2.length + 3).sum ≤ 1048576 := by
  have hc : Tryz.prog.cellsOf 37 = 2 := by kernel_rfl
  have hb : Tryz.prog.bytesOf 37 = 32 := by kernel_rfl
  rcases open_slice Tryz.underlying22 h with ⟨hcs, hx⟩ | ⟨a, len', cap', m, n, D, Pl, hcs, _, hl, hm, hmm, rfl, hcell⟩
  · simp at hcs
    obtain ⟨rfl, rfl, rfl⟩ := hcs
    exact ⟨[], ⟨rfl, fun h => absurd h (by omega)⟩, (fun p hp => by cases hp), by omega, by omega, by omega, by simp⟩
  · simp at hcs
    obtain ⟨rfl, rfl, rfl⟩ := hcs
    simp only [if_true] at hmm
    subst hmm
    rw [hc] at hcell
    obtain ⟨p, hp⟩ := choose_lt (α := PairD) (p := fun i q => (∀ k v, (pairL q)[k]? = some v → W.cell? ((a.add (i * 2)).add k) = some v) ∧ D i = pairDat q) (fun i hi => by
      obtain ⟨cs', h1, h2⟩ := hcell i hi
      obtain ⟨_, hlen, hcc⟩ := World.cells?_some h1
      obtain ⟨q, rfl, hq⟩ := pair_of h2
      refine ⟨q, fun k v hk => ?_, hq⟩
      have hk2 : k < 2 := by
        have := (List.getElem?_eq_some_iff.1 hk).1
        simpa [pairL] using this
      rw [hcc k hk2, hk])
    have hw : ∀ x ∈ ((m * 32) :: (DataW.weightsAll Tryz.prog 37 ((List.range len).map D))), x ≤ reachBytes := by
      intro x hx
      refine hz x ?_
      rw [DataW.weights, Tryz.underlying22]
      simp only [List.length_map, List.length_range, hb, List.mem_cons, List.mem_append] at hx ⊢
      rcases hx with hx | hx
      · left; rw [hx, Nat.add_sub_cancel' hl]
      · right; left; exact hx
    have hcap := hw (m * 32) (by simp)
    unfold reachBytes at hcap
    refine ⟨(List.range len).map p, ⟨by simp, fun h0 => ?_⟩, fun q hq => ?_, by have h9 := bulk_len (H := H) ((List.range len).map D); simp only [Rows.uptoBulk, List.length_map, List.length_range] at h9 hB; omega, hl, by omega, by
      have h2 : Rows.uptoBulkAll ((List.range len).map D) ≤ 1048576 := by
        simp only [Rows.uptoBulk] at hB; omega
      have h3 : (List.range len).map D = ((List.range len).map p).map pairDat := by
        rw [List.map_map]
        exact List.map_congr_left fun i hi => (hp i (by have := List.mem_range.1 hi; omega)).2
      rw [h3, bulk_heavy] at h2
      exact h2⟩
    · have h00 := (hp 0 (by omega)).1 0 _ rfl
      rw [Nat.zero_mul, add_add] at h00
      obtain ⟨g, off, spot⟩ := a
      have hsp : spot = none ∧ g < W.heap.size := by
        unfold Addr.add World.cell? at h00
        simp only [Nat.add_zero, if_true] at h00
        split at h00
        · rename_i c t f hg
          refine ⟨?_, (Array.getElem?_eq_some_iff.1 hg).1⟩
          cases spot with
          | none => rfl
          | some s => simp at h00
        · cases h00
      obtain ⟨rfl, hg⟩ := hsp
      refine ⟨g, off, rfl, hg, fun j hj i v hv => ?_⟩
      have hj' : j < len := by simpa using hj
      have := (hp j (by omega)).1 i v (by simpa using hv)
      rw [add_add] at this
      unfold Addr.add at this
      by_cases h0 : j * 2 + i = 0
      · rw [if_pos h0] at this
        rw [show off + j * 2 + i = off by omega]; exact this
      · rw [if_neg h0] at this
        rw [show off + j * 2 + i = off + (j * 2 + i) by omega]; exact this
    · obtain ⟨i, hi, rfl⟩ := List.mem_map.1 hq
      have hi' : i < len := by simpa using hi
      have h1 := bulk_all (H := H) (List.mem_map.2 ⟨i, hi, rfl⟩ : D i ∈ (List.range len).map D)
      rw [(hp i (by omega)).2, pair_bulk] at h1
      have h2 : Rows.uptoBulkAll ((List.range len).map D) ≤ 1048576 := by
        simp only [Rows.uptoBulk] at hB; omega
      omega
end
end Go.Proofs.YtmmoenbmgcplkaaGreatDoor
set_option linter.unusedVariables false
set_option linter.unusedSimpArgs false
namespace Go.Proofs.YtmmoenbmgcplkaaGreatDoor
open Go Go.RowKit Go.ChangeShapes Go.WideShapes Go.Deep
theorem list3 {α : Type} {l : List α} (h : l.length = 3) : ∃ a b c, l = [a, b, c] := by
  match l, h with
  | [a, b, c], _ => exact ⟨a, b, c, rfl⟩
theorem list6 {α : Type} {l : List α} (h : l.length = 6) : ∃ a b c d e f, l = [a, b, c, d, e, f] := by
  match l, h with
  | [a, b, c, d, e, f], _ => exact ⟨a, b, c, d, e, f, rfl⟩
theorem trod_struct3 {H : Type} {enc : TypeId × Value → H} {P : Program} {w : World} {base : Nat} {spare : Nat → Bool} {held : Bool} {t : TypeId} {f0 f1 f2 : Field} {fuel : Nat} {cs : List Value} {x : DataW H × List MemPlace} (ht : P.underlying t = some (.struct #[f0, f1, f2])) (h : DataW.trod enc P w base spare held fuel t cs = some x) :
    ∃ y0 y1 y2 n, x.1 = .agg [y0.1, y1.1, y2.1] ∧ cs.length = P.cellsOf t ∧ DataW.trod enc P w base spare held n f0.type ((cs.drop f0.offset).take (P.cellsOf f0.type)) = some y0 ∧
      DataW.trod enc P w base spare held n f1.type ((cs.drop f1.offset).take (P.cellsOf f1.type)) = some y1 ∧ DataW.trod enc P w base spare held n f2.type ((cs.drop f2.offset).take (P.cellsOf f2.type)) = some y2 := by
  obtain ⟨xs, n, _, rfl, hl, hlen, hf⟩ := DataW.trod_struct ht h
  obtain ⟨y0, y1, y2, rfl⟩ := list3 (hlen.trans rfl)
  exact ⟨y0, y1, y2, n, by simp, hl, by simpa using hf 0 f0 rfl, by simpa using hf 1 f1 rfl, by simpa using hf 2 f2 rfl⟩
theorem trod_struct6 {H : Type} {enc : TypeId × Value → H} {P : Program} {w : World} {base : Nat} {spare : Nat → Bool} {held : Bool} {t : TypeId} {f0 f1 f2 f3 f4 f5 : Field} {fuel : Nat} {cs : List Value} {x : DataW H × List MemPlace} (ht : P.underlying t = some (.struct #[f0, f1, f2, f3, f4, f5])) (h : DataW.trod enc P w base spare held fuel t cs = some x) :
    ∃ y0 y1 y2 y3 y4 y5 n, x.1 = .agg [y0.1, y1.1, y2.1, y3.1, y4.1, y5.1] ∧ cs.length = P.cellsOf t ∧ DataW.trod enc P w base spare held n f0.type ((cs.drop f0.offset).take (P.cellsOf f0.type)) = some y0 ∧
      DataW.trod enc P w base spare held n f1.type ((cs.drop f1.offset).take (P.cellsOf f1.type)) = some y1 ∧ DataW.trod enc P w base spare held n f2.type ((cs.drop f2.offset).take (P.cellsOf f2.type)) = some y2 ∧
      DataW.trod enc P w base spare held n f3.type ((cs.drop f3.offset).take (P.cellsOf f3.type)) = some y3 ∧ DataW.trod enc P w base spare held n f4.type ((cs.drop f4.offset).take (P.cellsOf f4.type)) = some y4 ∧
      DataW.trod enc P w base spare held n f5.type ((cs.drop f5.offset).take (P.cellsOf f5.type)) = some y5 := by
  obtain ⟨xs, n, _, rfl, hl, hlen, hf⟩ := DataW.trod_struct ht h
  obtain ⟨y0, y1, y2, y3, y4, y5, rfl⟩ := list6 (hlen.trans rfl)
  exact ⟨y0, y1, y2, y3, y4, y5, n, by simp, hl, by simpa using hf 0 f0 rfl, by simpa using hf 1 f1 rfl, by simpa using hf 2 f2 rfl, by simpa using hf 3 f3 rfl, by simpa using hf 4 f4 rfl, by simpa using hf 5 f5 rfl⟩
section
variable {H : Type} {enc : TypeId × Value → H} {W : World} {sp : Nat → Bool} {hd : Bool}
def userDat (u : UserD) : DataW H := .agg [.lit (.string u.name), .lit (.string u.id), .lit (.string u.sec)]
theorem int_ofS {fuel : Nat} {c : Value} {y : DataW H × List MemPlace} (h : DataW.trod enc Tryz.prog W 0 sp hd fuel 3 [c] = some y) : ∃ n, c = .int .i64 n ∧ y.1 = .lit (.int .i64 n) := by
  obtain ⟨n, e, e2, _⟩ := DataW.trod_int Tryz.underlying3 h
  exact ⟨n, by simpa using e, by rw [e2]⟩
theorem bool_ofS {fuel : Nat} {c : Value} {y : DataW H × List MemPlace} (h : DataW.trod enc Tryz.prog W 0 sp hd fuel 4 [c] = some y) : ∃ n, c = .bool n ∧ y.1 = .lit (.bool n) := by
  obtain ⟨n, e, e2⟩ := DataW.trod_bool Tryz.underlying4 h
  exact ⟨n, by simpa using e, by rw [e2]⟩
theorem user_of {fuel : Nat} {cs : List Value} {y : DataW H × List MemPlace} (h : DataW.trod enc Tryz.prog W 0 sp hd fuel 26 cs = some y) : ∃ u : UserD, cs = userC u ∧ y.1 = userDat u := by
  obtain ⟨y0, y1, y2, n, hx, hl, g0, g1, g2⟩ := trod_struct3 Tryz.underlying26 h
  have hc : Tryz.prog.cellsOf 26 = 3 := by kernel_rfl
  have hs : Tryz.prog.cellsOf 9 = 1 := by kernel_rfl
  rw [hc] at hl
  obtain ⟨c0, c1, c2, rfl⟩ := list3 hl
  simp only [hs, List.drop_zero, List.drop_succ_cons, List.take_succ_cons, List.take_zero] at g0 g1 g2
  obtain ⟨s0, rfl, x0⟩ := str_of g0
  obtain ⟨s1, rfl, x1⟩ := str_of g1
  obtain ⟨s2, rfl, x2⟩ := str_of g2
  exact ⟨⟨s0, s1, s2⟩, rfl, by rw [hx, x0, x1, x2]; rfl⟩
theorem user_bulk (u : UserD) : Rows.uptoBulk (userDat (H := H) u) = u.name.length + 1 + (u.id.length + 1 + (u.sec.length + 1)) + 1 := by
  simp [userDat, Rows.uptoBulk, Rows.uptoBulkAll]
theorem users_of {fuel : Nat} {A : Option Addr} {len cap : Nat} {y : DataW H × List MemPlace} (h : DataW.trod enc Tryz.prog W 0 (fun _ => true) hd fuel 33 [.slice A len cap] = some y) (hB : Rows.uptoBulk y.1 ≤ 1048576) (hz : ∀ x ∈ y.1.weights Tryz.prog 33, x ≤ reachBytes) :
    ∃ ps, UsersAt W A len ps ∧ (∀ p ∈ ps, p.id.length ≤ 1048576 ∧ p.sec.length ≤ 1048576) ∧ len ≤ 1048576 ∧ len ≤ cap ∧ cap ≤ 5000000000000 := by
  have hc : Tryz.prog.cellsOf 26 = 3 := by kernel_rfl
  have hb : Tryz.prog.bytesOf 26 = 48 := by kernel_rfl
  rcases open_slice Tryz.underlying33 h with ⟨hcs, hx⟩ | ⟨a, len', cap', m, n, D, Pl, hcs, _, hl, hm, hmm, rfl, hcell⟩
  · simp at hcs
    obtain ⟨rfl, rfl, rfl⟩ := hcs
    exact ⟨[], ⟨rfl, fun h => absurd h (by omega)⟩, (fun p hp => by cases hp), by omega, by omega, by omega⟩
  · simp at hcs
    obtain ⟨rfl, rfl, rfl⟩ := hcs
    simp only [if_true] at hmm
    subst hmm
    rw [hc] at hcell
    obtain ⟨p, hp⟩ := choose_lt (α := UserD) (p := fun i q => (∀ k v, (userC q)[k]? = some v → W.cell? ((a.add (i * 3)).add k) = some v) ∧ D i = userDat q) (fun i hi => by
      obtain ⟨cs', h1, h2⟩ := hcell i hi
      obtain ⟨_, hlen, hcc⟩ := World.cells?_some h1
      obtain ⟨q, rfl, hq⟩ := user_of h2
      refine ⟨q, fun k v hk => ?_, hq⟩
      have hk3 : k < 3 := by
        have := (List.getElem?_eq_some_iff.1 hk).1
        simpa [userC] using this
      rw [hcc k hk3, hk])
    have hw : ∀ x ∈ ((m * 48) :: (DataW.weightsAll Tryz.prog 26 ((List.range len).map D))), x ≤ reachBytes := by
      intro x hx
      refine hz x ?_
      rw [DataW.weights, Tryz.underlying33]
      simp only [List.length_map, List.length_range, hb, List.mem_cons, List.mem_append] at hx ⊢
      rcases hx with hx | hx
      · left; rw [hx, Nat.add_sub_cancel' hl]
      · right; left; exact hx
    have hcap := hw (m * 48) (by simp)
    unfold reachBytes at hcap
    refine ⟨(List.range len).map p, ⟨by simp, fun h0 => ?_⟩, fun q hq => ?_, by have h9 := bulk_len (H := H) ((List.range len).map D); simp only [Rows.uptoBulk, List.length_map, List.length_range] at h9 hB; omega, hl, by omega⟩
    · have h00 := (hp 0 (by omega)).1 0 _ rfl
      rw [Nat.zero_mul, add_add] at h00
      obtain ⟨g, off, spot⟩ := a
      have hsp : spot = none ∧ g < W.heap.size := by
        unfold Addr.add World.cell? at h00
        simp only [Nat.add_zero, if_true] at h00
        split at h00
        · rename_i c t f hg
          refine ⟨?_, (Array.getElem?_eq_some_iff.1 hg).1⟩
          cases spot with
          | none => rfl
          | some s => simp at h00
        · cases h00
      obtain ⟨rfl, hg⟩ := hsp
      refine ⟨g, off, rfl, hg, fun j hj i v hv => ?_⟩
      have hj' : j < len := by simpa using hj
      have := (hp j (by omega)).1 i v (by simpa using hv)
      rw [add_add] at this
      unfold Addr.add at this
      by_cases h0 : j * 3 + i = 0
      · rw [if_pos h0] at this
        rw [show off + j * 3 + i = off by omega]; exact this
      · rw [if_neg h0] at this
        rw [show off + j * 3 + i = off + (j * 3 + i) by omega]; exact this
    · obtain ⟨i, hi, rfl⟩ := List.mem_map.1 hq
      have hi' : i < len := by simpa using hi
      have h1 := bulk_all (H := H) (List.mem_map.2 ⟨i, hi, rfl⟩ : D i ∈ (List.range len).map D)
      rw [(hp i (by omega)).2, user_bulk] at h1
      have h2 : Rows.uptoBulkAll ((List.range len).map D) ≤ 1048576 := by
        simp only [Rows.uptoBulk] at hB; omega
      omega
set_option maxRecDepth 100000 in
theorem users_open {b0 : Nat} {v : Value} {d : DataW H} {q : List MemPlace} (hv : Value.okWide Tryz.prog W .any b0 33 v) (h : DataW.Trod enc Tryz.prog W 0 (fun _ => true) hd 33 v d q) (hB : Rows.uptoBulk d ≤ 1048576) (hz : ∀ x ∈ d.weights Tryz.prog 33, x ≤ reachBytes) :
    ∃ A n cap ps, v = .slice A n cap ∧ UsersAt W A n ps ∧ (∀ p ∈ ps, p.id.length ≤ 1048576 ∧ p.sec.length ≤ 1048576) ∧ n ≤ 1048576 ∧ n ≤ cap ∧ cap ≤ 5000000000000 := by
  obtain ⟨A, len, cap, rfl⟩ := okWide_slice Tryz.underlying33 hv
  obtain ⟨fuel, hf⟩ := h
  obtain ⟨ps, h1, h2, h3, h4, h5⟩ := users_of hf hB hz
  exact ⟨A, len, cap, ps, rfl, h1, h2, h3, h4, h5⟩
theorem trod_pairs_form {fuel : Nat} {cs : List Value} {y : DataW H × List MemPlace} (h : DataW.trod enc Tryz.prog W 0 sp hd fuel 22 cs = some y) : ∃ A l c, cs = [.slice A l c] := by
  rcases open_slice Tryz.underlying22 h with ⟨hcs, _⟩ | ⟨a', len', cap', m, n, D, Pl, hcs, _⟩
  · exact ⟨_, _, _, hcs⟩
  · exact ⟨_, _, _, hcs⟩
structure ReqIn (W : World) (r : ReqD) (A : Option Addr) (n cap : Nat) : Prop where
  p : PairsAt W A n r.fs
  c : n ≤ cap
  cap : cap ≤ 9223372036854775807
  tg : r.tg.length ≤ 1048576
  m : r.m.length ≤ 1048576
  hv : heavy r.fs ≤ 1048576
  body : r.body.length ≤ 1048576
set_option maxRecDepth 100000 in
theorem request_open {b0 : Nat} {v : Value} {d : DataW H} {q : List MemPlace} (hv : Value.okWide Tryz.prog W .any b0 24 v) (h : DataW.Trod enc Tryz.prog W 0 (fun _ => true) hd 24 v d q) (hB : Rows.uptoBulk d ≤ 1048576) (hz : ∀ x ∈ d.weights Tryz.prog 24, x ≤ reachBytes) :
    ∃ (r : ReqD) (A : Option Addr) (n cap : Nat), v = .agg (reqC r A n cap).toArray ∧ ReqIn W r A n cap := by
  obtain ⟨cs, rfl, hsz⟩ := okWide_struct Tryz.underlying24 hv
  obtain ⟨fuel, hf⟩ := h
  obtain ⟨y0, y1, y2, y3, y4, y5, n, hx, hl, g0, g1, g2, g3, g4, g5⟩ := trod_struct6 Tryz.underlying24 hf
  have hc : Tryz.prog.cellsOf 24 = 6 := by kernel_rfl
  have hi : Tryz.prog.cellsOf 3 = 1 := by kernel_rfl
  have hs : Tryz.prog.cellsOf 9 = 1 := by kernel_rfl
  have hb : Tryz.prog.cellsOf 4 = 1 := by kernel_rfl
  have hp : Tryz.prog.cellsOf 22 = 1 := by kernel_rfl
  obtain ⟨c0, c1, c2, c3, c4, c5, e⟩ := list6 (l := cs.toList) (by rw [Array.length_toList, hsz, hc])
  simp only [Value.cells, e] at g0 g1 g2 g3 g4 g5
  simp only [hi, hs, hb, hp, List.drop_zero, List.drop_succ_cons, List.take_succ_cons, List.take_zero] at g0 g1 g2 g3 g4 g5
  obtain ⟨s0, rfl, x0⟩ := str_of g0
  obtain ⟨s1, rfl, x1⟩ := str_of g1
  obtain ⟨n2, rfl, x2⟩ := int_ofS g2
  obtain ⟨s4, rfl, x4⟩ := str_of g4
  obtain ⟨b5, rfl, x5⟩ := bool_ofS g5
  obtain ⟨A, l, c, h3⟩ := trod_pairs_form g3
  have h3' : c3 = .slice A l c := by simpa using h3
  subst h3'
  have hx' : d = .agg [y0.1, y1.1, y2.1, y3.1, y4.1, y5.1] := hx
  have hb2 : Rows.uptoBulk y0.1 + (Rows.uptoBulk y1.1 + (Rows.uptoBulk y2.1 + (Rows.uptoBulk y3.1 + (Rows.uptoBulk y4.1 + (Rows.uptoBulk y5.1 + 0))))) + 1 ≤ 1048576 := by
    rw [hx'] at hB
    simpa [Rows.uptoBulk, Rows.uptoBulkAll] using hB
  have k0 : Rows.uptoBulk y0.1 = s0.length + 1 := by rw [x0]; simp [Rows.uptoBulk]
  have k1 : Rows.uptoBulk y1.1 = s1.length + 1 := by rw [x1]; simp [Rows.uptoBulk]
  have k4 : Rows.uptoBulk y4.1 = s4.length + 1 := by rw [x4]; simp [Rows.uptoBulk]
  obtain ⟨ps, h1, h2, h3, h4, h5, h6⟩ := pairs_of g3 (by omega) (fun x hx3 => hz x (by
    rw [hx', DataW.weights, Tryz.underlying24]
    simp only [DataW.weightsEach, List.map_cons, List.mem_append, List.map_nil]
    simp [hx3]))
  refine ⟨⟨s0, s1, n2, ps, s4, b5⟩, A, l, c, ?_, h1, h4, by omega, by show s1.length ≤ _; omega, by show s0.length ≤ _; omega, h6, by show s4.length ≤ _; omega⟩
  rw [show cs = cs.toList.toArray from (Array.toArray_toList).symm, e]
  rfl
end
end Go.Proofs.YtmmoenbmgcplkaaGreatDoor
set_option linter.unusedVariables false
set_option linter.unusedSimpArgs false
namespace Go.Proofs.YtmmoenbmgcplkaaGreatDoor
open Go Go.RowKit
set_option maxRecDepth 100000 in
set_option maxHeartbeats 8000000 in
theorem SignChecks_law (r : ReqD) (A : Option Addr) (n c : Nat) (B : Option Addr) (k kc : Nat) (us : List UserD) (now : Int) (rg : List UInt8) (w : World) (h : ReqIn w r A n c) (hu : UsersAt w B k us) (hk : k ≤ 9223372036854775807) (hus : ∀ v ∈ us, v.sec.length ≤ 1048576)
    (wl : -9223372036854775808 ≤ now) (wh : now ≤ 9223372036854775807) (hrg : rg.length ≤ 1048576) (hS : S17 w) :
    Calls Tryz.prog 8 #[.agg (reqC r A n c).toArray, .slice B k kc, .int .i64 now, .string ⟨rg.toArray⟩] w fun e w' => e = .returned (.bool true) ∧ Q w w' := by
  have hf := h.p
  have hc := h.c
  have hcap := h.cap
  have hcnt := heavy_count r.fs
  have hv := h.hv
  have hn0 := hf.1
  have hck : ChkOk r us rg := ⟨reqOk_plain h.tg h.m h.hv, by have := h.body; omega, fun p hp => by have := heavy_mem hp; omega, by omega, by omega, fun v hv => by have := hus v hv; omega⟩
  have hn1 : n ≤ 1100000 := by omega
  have HEx := Lib.hid (fun W (hq : Q w W) => examples17_any W (hS.q hq))
  have HCp := Lib.hid (fun W (hq : Q w W) => copied_any r A n c W (hf.q hq) hn1)
  unfold CpPost at HCp
  have HRC := Lib.hid (fun W (hq : Q w W) => RCheck_any r A n c B k kc us now rg W (hf.q hq) hc hcap (hu.q hq) hk hck)
  have HCn := Lib.hid (fun (G : Nat) W (hq : Q w W) (hm : Marked W r G n) => Check_any r (some ⟨G, 0, none⟩) n (n + 1) B k kc us now rg W hm.p (by omega) (by omega) (hu.q hq) hk hck (hS.q hq))
  have HSt := Lib.hid (fun (G : Nat) W (hq : Q w W) (hm : Marked W r G n) => still_any r A G n c W hm (hf.q hq) hn1)
  obtain ⟨⟨uq, eq⟩, hq⟩ : ∃ q, checkQ r us now rg = q := ⟨_, rfl⟩
  rw [hq] at HRC HCn
  unfold CkPost at HRC HCn
  simp only at HRC HCn
  obtain ⟨N, w1, hN, e1, hb1, hq1⟩ : ∃ N w1, w.heap.size = N ∧ w.alloc (.cells (reqV r (.slice A n c)).toArray 24) = w1 ∧ RB w1 N r (.slice A n c) ∧ Q w w1 := ⟨_, _, rfl, rfl, RB.new w r _, (Q.refl w).alloc _⟩
  have HB := Lib.hid hb1
  have HQ := Lib.hid hq1
  have HN0 := Lib.hid hn0
  clear h hu hus hf hc hcap hcnt hv hn0 hck hS hb1 hq1 hq hrg hk
  obtain ⟨m, tg, minor, fs, body, close⟩ := r
  simp only [reqV] at e1
  simp only at HN0
  unfold reqC at HCp HCn HRC HSt ⊢
  go_enter Tryz.func8, Tryz.ntmps8
  go_wp2_with fail
  refine (HEx.out _ HQ.out).mono ?_
  rintro e w2 ⟨rfl, hq2⟩
  have HB2 := Lib.hid (HB.out.q hq2)
  have HQ2 := Lib.hid (HQ.out.trans hq2)
  clear hq2 HB HQ HEx e1 hN
  obtain ⟨b0, b1, b2, b3, b4, b5⟩ := HB2.out.c
  simp only at b0 b1 b2 b4 b5
  go_wp2_with fail
  refine (HRC.out _ HQ2.out).mono ?_
  rintro e w3 ⟨rfl, hq3⟩
  have HQ3 := Lib.hid (HQ2.out.trans hq3)
  have HB3 := Lib.hid (HB2.out.q hq3)
  clear hq3 b0 b1 b2 b3 b4 b5 HB2 HQ2 HRC
  obtain ⟨M1, X1, X2, hM, hX1, hl1, hX2, hl2, hq2⟩ := usr_boxes w3 uq
  have hX1b : w3.alloc (.cells #[.string ⟨#[]⟩, .string ⟨#[]⟩, .string ⟨#[]⟩] 26) = X1 := hX1
  have HQ4 := Lib.hid (HQ3.out.trans hq2)
  have HB4 := Lib.hid (HB3.out.q hq2)
  have HU4 := Lib.hid hl2
  clear hl2 hq2 HQ3 HB3
  go_upto_region 3 with (refine wpList_store_row rfl 26 _ _ rfl M1 (userC uq).toArray (by rfl) (by rfl) 26 _ hl1 (infoUsrS _) rfl (userC_one _) ?_)
  try rw [hX2]
  obtain ⟨Z4, hZ⟩ : ∃ W, X2 = W := ⟨_, rfl⟩
  rw [hZ] at HQ4 HB4 HU4 ⊢
  clear hZ hM hX1 hl1 hX2 hX1b X1 X2
  obtain ⟨b0, b1, b2, b3, b4, b5⟩ := HB4.out.c
  simp only at b0 b1 b2 b4 b5
  go_wp2_with fail
  refine (HCp.out _ HQ4.out).mono ?_
  rintro e w5 ⟨⟨G, rfl, ho5⟩, hq5⟩
  have HM5 : Hid (Marked w5 ⟨m, tg, minor, fs, body, close⟩ G n) := Lib.hid (marked_of ho5 HN0.out)
  have HQ5 := Lib.hid (HQ4.out.trans hq5)
  have HB5 := Lib.hid (HB4.out.q hq5)
  have HU5 := Lib.hid (HU4.out.q hq5)
  clear hq5 ho5 b0 b1 b2 b3 b4 b5 HB4 HQ4 HU4 HCp
  obtain ⟨M, Y1, Y2, hM, hY1, hl1, hY2, hl2, hq2⟩ := rq_boxes w5 ⟨m, tg, minor, fs, body, close⟩ (.slice (some ⟨G, 0, none⟩) n (n + 1))
  have hY1b : w5.alloc (.cells #[.string ⟨#[]⟩, .string ⟨#[]⟩, .int .i64 0, .slice none 0 0, .string ⟨#[]⟩, .bool false] 24) = Y1 := hY1
  have HQ6 := Lib.hid (HQ5.out.trans hq2)
  have HM6 := Lib.hid (HM5.out.q hq2)
  have HB6 := Lib.hid (HB5.out.q hq2)
  have HU6 := Lib.hid (HU5.out.q hq2)
  have HX6 := Lib.hid hl2
  clear hl2 hq2 HQ5 HM5 HB5 HU5
  go_upto_region 4 with (refine wpList_store_row rfl 24 _ _ rfl M (reqV ⟨m, tg, minor, fs, body, close⟩ (.slice (some ⟨G, 0, none⟩) n (n + 1))).toArray (by rfl) (by rfl) 24 _ hl1 (infoReqS _ _) rfl (reqV_one _ _ _ _) ?_)
  try rw [hY2]
  obtain ⟨Z6, hZ⟩ : ∃ W, Y2 = W := ⟨_, rfl⟩
  rw [hZ] at HQ6 HM6 HB6 HU6 HX6 ⊢
  clear hZ hM hY1 hl1 hY2 hY1b Y1 Y2
  obtain ⟨b0, b1, b2, b3, b4, b5⟩ := HX6.out.c
  simp only at b0 b1 b2 b3 b4 b5
  go_wp2_with fail
  refine (HCn.out G _ HQ6.out HM6.out).mono ?_
  rintro e w7 ⟨rfl, hq7⟩
  have HQ7 := Lib.hid (HQ6.out.trans hq7)
  have HM7 := Lib.hid (HM6.out.q hq7)
  have HB7 := Lib.hid (HB6.out.q hq7)
  have HU7 := Lib.hid (HU6.out.q hq7)
  have HX7 := Lib.hid (HX6.out.q hq7)
  clear hq7 b0 b1 b2 b3 b4 b5 HQ6 HM6 HB6 HX6 HU6 HCn
  obtain ⟨M2, X1, X2, hM, hX1, hl1, hX2, hl2, hq2⟩ := usr_boxes w7 uq
  have hX1b : w7.alloc (.cells #[.string ⟨#[]⟩, .string ⟨#[]⟩, .string ⟨#[]⟩] 26) = X1 := hX1
  have HQ8 := Lib.hid (HQ7.out.trans hq2)
  have HB8 := Lib.hid (HB7.out.q hq2)
  have HM8 := Lib.hid (HM7.out.q hq2)
  have HX8 := Lib.hid (HX7.out.q hq2)
  have HU8 := Lib.hid (HU7.out.q hq2)
  have HV8 := Lib.hid hl2
  clear hl2 hq2 HQ7 HB7 HM7 HX7 HU7
  go_upto_region 5 with (refine wpList_store_row rfl 26 _ _ rfl M2 (userC uq).toArray (by rfl) (by rfl) 26 _ hl1 (infoUsrS _) rfl (userC_one _) ?_)
  try rw [hX2]
  obtain ⟨Z8, hZ⟩ : ∃ W, X2 = W := ⟨_, rfl⟩
  rw [hZ] at HQ8 HB8 HM8 HX8 HU8 HV8 ⊢
  clear hZ hM hX1 hl1 hX2 hX1b X1 X2
  obtain ⟨b0, b1, b2, b3, b4, b5⟩ := HB8.out.c
  obtain ⟨c0, c1, c2, c3, c4, c5⟩ := HX8.out.c
  simp only at b0 b1 b2 b3 b4 b5 c0 c1 c2 c3 c4 c5
  go_wp2_with fail
  refine (HSt.out G _ HQ8.out HM8.out).mono ?_
  rintro e w9 ⟨rfl, hq9⟩
  have HQ9 := Lib.hid (HQ8.out.trans hq9)
  have HU9 := Lib.hid (HU8.out.q hq9)
  have HV9 := Lib.hid (HV8.out.q hq9)
  clear hq9 b0 b1 b2 b3 b4 b5 c0 c1 c2 c3 c4 c5 HQ8 HM8 HB8 HX8 HSt HU8 HV8
  obtain ⟨nm, idd, sec⟩ := uq
  obtain ⟨u0, u1, u2⟩ := HU9.out.c
  obtain ⟨x0, x1, x2⟩ := HV9.out.c
  simp only at u0 u1 u2 x0 x1 x2
  go_wp2_with fail
  go_ret
  exact ⟨rfl, HQ9.out⟩
end Go.Proofs.YtmmoenbmgcplkaaGreatDoor
