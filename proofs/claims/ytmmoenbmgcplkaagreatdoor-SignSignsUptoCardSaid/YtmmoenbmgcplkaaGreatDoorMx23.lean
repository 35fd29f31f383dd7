/- Texts of this proof, laid into one: UrW, OpS, Sju. -/
import Derived.Test.YtmmoenbmgcplkaaGreatDoorMx22
import Derived.Test.YtmmoenbmgcplkaaGreatDoorRows
import Derived.SizedLaws
import Derived.Deep.Slices
set_option linter.unusedVariables false
namespace Go.Proofs.YtmmoenbmgcplkaaGreatDoor
open Go Go.RowKit Go.ChangeShapes Go.WideShapes Go.Deep
theorem list2 {α : Type} {l : List α} (h : l.length = 2) : ∃ a b, l = [a, b] := by
  match l, h with
  | [a, b], _ => exact ⟨a, b, rfl⟩
theorem str_back (s : ByteArray) : Value.string s = .string ⟨s.data.toList.toArray⟩ := by cases s; rfl
theorem trod_struct2 {H : Type} {enc : TypeId × Value → H} {P : Program} {w : World} {base : Nat} {spare : Nat → Bool} {held : Bool} {t : TypeId} {f0 f1 : Field} {fuel : Nat} {cs : List Value} {x : DataW H × List MemPlace} (ht : P.underlying t = some (.struct #[f0, f1])) (h : DataW.trod enc P w base spare held fuel t cs = some x) :
    ∃ y0 y1 n, x.1 = .agg [y0.1, y1.1] ∧ cs.length = P.cellsOf t ∧ DataW.trod enc P w base spare held n f0.type ((cs.drop f0.offset).take (P.cellsOf f0.type)) = some y0 ∧
      DataW.trod enc P w base spare held n f1.type ((cs.drop f1.offset).take (P.cellsOf f1.type)) = some y1 := by
  obtain ⟨xs, n, _, rfl, hl, hlen, hf⟩ := DataW.trod_struct ht h
  obtain ⟨y0, y1, rfl⟩ := list2 (hlen.trans rfl)
  exact ⟨y0, y1, n, by simp, hl, by simpa using hf 0 f0 rfl, by simpa using hf 1 f1 rfl⟩
section
variable {H : Type} {enc : TypeId × Value → H} {W : World} {sp : Nat → Bool} {hd : Bool}
def pairDat (p : PairD) : DataW H := .agg [.lit (.string p.1), .lit (.string p.2)]
theorem str_of {fuel : Nat} {c : Value} {y : DataW H × List MemPlace} (h : DataW.trod enc Tryz.prog W 0 sp hd fuel 9 [c] = some y) : ∃ s : List UInt8, c = .string ⟨s.toArray⟩ ∧ y.1 = .lit (.string s) := by
  obtain ⟨s, e, e2, _⟩ := DataW.trod_string Tryz.underlying9 h
  have e' : c = .string s := by simpa using e
  exact ⟨s.data.toList, e'.trans (str_back s), by rw [e2]⟩
theorem pair_of {fuel : Nat} {cs : List Value} {y : DataW H × List MemPlace} (h : DataW.trod enc Tryz.prog W 0 sp hd fuel 37 cs = some y) : ∃ p : PairD, cs = pairL p ∧ y.1 = pairDat p := by
  obtain ⟨y0, y1, n, hx, hl, g0, g1⟩ := trod_struct2 Tryz.underlying37 h
  have hc : Tryz.prog.cellsOf 37 = 2 := by kernel_rfl
  have hs : Tryz.prog.cellsOf 9 = 1 := by kernel_rfl
  rw [hc] at hl
  obtain ⟨c0, c1, rfl⟩ := list2 hl
  simp only [hs, List.drop_zero, List.drop_succ_cons, List.take_succ_cons, List.take_zero] at g0 g1
  obtain ⟨s0, rfl, x0⟩ := str_of g0
  obtain ⟨s1, rfl, x1⟩ := str_of g1
  exact ⟨(s0, s1), rfl, by rw [hx, x0, x1]; rfl⟩
theorem bulk_all {d : DataW H} {l : List (DataW H)} (h : d ∈ l) : Rows.uptoBulk d ≤ Rows.uptoBulkAll l := by
  induction l with
  | nil => cases h
  | cons a r ih =>
    simp only [Rows.uptoBulkAll]
    rcases List.mem_cons.1 h with h | h
    · subst h; omega
    · have := ih h; omega
theorem bulk_pos (d : DataW H) : 1 ≤ Rows.uptoBulk d := by
  cases d with
  | lit l => cases l <;> simp [Rows.uptoBulk]
  | _ => simp [Rows.uptoBulk]
theorem bulk_len (l : List (DataW H)) : l.length ≤ Rows.uptoBulkAll l := by
  induction l with
  | nil => simp
  | cons a r ih => have := bulk_pos a; simp only [Rows.uptoBulkAll, List.length_cons]; omega
theorem pair_bulk (p : PairD) : Rows.uptoBulk (pairDat (H := H) p) = p.1.length + 1 + (p.2.length + 1) + 1 := by
  simp [pairDat, Rows.uptoBulk, Rows.uptoBulkAll]
theorem bulk_heavy (ps : List PairD) : Rows.uptoBulkAll (H := H) (ps.map pairDat) = (ps.map fun p => p.1.length + p.2.length + 3).sum := by
  induction ps with
  | nil => simp [Rows.uptoBulkAll]
  | cons p r ih => simp only [List.map_cons, List.sum_cons, Rows.uptoBulkAll, pair_bulk, ih]; omega
theorem pairs_of {fuel : Nat} {A : Option Addr} {len cap : Nat} {y : DataW H × List MemPlace} (h : DataW.trod enc Tryz.prog W 0 (fun _ => true) hd fuel 22 [.slice A len cap] = some y) (hB : Rows.uptoBulk y.1 ≤ 1048576) (hz : ∀ x ∈ y.1.weights Tryz.prog 22, x ≤ reachBytes) :
    ∃ ps, PairsAt W A len ps ∧ (∀ p ∈ ps, p.1.length ≤ 1048576 ∧ p.2.length ≤ 1048576) ∧ len ≤ 1048576 ∧ len ≤ cap ∧ cap ≤ 5000000000000 ∧ (ps.map fun p => p.1.length + p.2.length + 3).sum ≤ 1048576 := by
  have hc : Tryz.prog.cellsOf 37 = 2 := by kernel_rfl
  have hb : Tryz.prog.bytesOf 37 = 32 := by kernel_rfl
  rcases open_slice Tryz.underlying22 h with ⟨hcs, hx⟩ | ⟨a, len', cap', m, n, D, Pl, hcs, _, hl, hm, hmm, rfl, hcell⟩
  · simp at hcs
    obtain ⟨rfl, rfl, rfl⟩ := hcs
    exact ⟨[], ⟨rfl, fun h => absurd h (by omega)⟩, (fun p hp => by cases hp), by omega, by omega, by omega, by simp⟩
  · simp at hcs
    obtain ⟨rfl, rfl, rfl⟩ := hcs
    simp only [if_true] at hmm
    subst hmm
    rw [hc] at hcell
    obtain ⟨p, hp⟩ := choose_lt (α := PairD) (p := fun i q => (∀ k v, (pairL q)[k]? = some v → W.cell? ((a.add (i * 2)).add k) = some v) ∧ D i = pairDat q) (fun i hi => by
      obtain ⟨cs', h1, h2⟩ := hcell i hi
      obtain ⟨_, hlen, hcc⟩ := World.cells?_some h1
      obtain ⟨q, rfl, hq⟩ := pair_of h2
      refine ⟨q, fun k v hk => ?_, hq⟩
      have hk2 : k < 2 := by
        have := (List.getElem?_eq_some_iff.1 hk).1
        simpa [pairL] using this
      rw [hcc k hk2, hk])
    have hw : ∀ x ∈ ((m * 32) :: (DataW.weightsAll Tryz.prog 37 ((List.range len).map D))), x ≤ reachBytes := by
      intro x hx
      refine hz x ?_
      rw [DataW.weights, Tryz.underlying22]
      simp only [List.length_map, List.length_range, hb, List.mem_cons, List.mem_append] at hx ⊢
      rcases hx with hx | hx
      · left; rw [hx, Nat.add_sub_cancel' hl]
      · right; left; exact hx
    have hcap := hw (m * 32) (by simp)
    unfold reachBytes at hcap
    refine ⟨(List.range len).map p, ⟨by simp, fun h0 => ?_⟩, fun q hq => ?_, by have h9 := bulk_len (H := H) ((List.range len).map D); simp only [Rows.uptoBulk, List.length_map, List.length_range] at h9 hB; omega, hl, by omega, by
      have h2 : Rows.uptoBulkAll ((List.range len).map D) ≤ 1048576 := by
        simp only [Rows.uptoBulk] at hB; omega
      have h3 : (List.range len).map D = ((List.range len).map p).map pairDat := by
        rw [List.map_map]
        exact List.map_congr_left fun i hi => (hp i (by have := List.mem_range.1 hi; omega)).2
      rw [h3, bulk_heavy] at h2
      exact h2⟩
    · have h00 := (hp 0 (by omega)).1 0 _ rfl
      rw [Nat.zero_mul, add_add] at h00
      obtain ⟨g, off, spot⟩ := a
      have hsp : spot = none ∧ g < W.heap.size := by
        unfold Addr.add World.cell? at h00
        simp only [Nat.add_zero, if_true] at h00
        split at h00
        · rename_i c t f hg
          refine ⟨?_, (Array.getElem?_eq_some_iff.1 hg).1⟩
          cases spot with
          | none => rfl
          | some s => simp at h00
        · cases h00
      obtain ⟨rfl, hg⟩ := hsp
      refine ⟨g, off, rfl, hg, fun j hj i v hv => ?_⟩
      have hj' : j < len := by simpa using hj
      have := (hp j (by omega)).1 i v (by simpa using hv)
      rw [add_add] at this
      unfold Addr.add at this
      by_cases h0 : j * 2 + i = 0
      · rw [if_pos h0] at this
        rw [show off + j * 2 + i = off by omega]; exact this
      · rw [if_neg h0] at this
        rw [show off + j * 2 + i = off + (j * 2 + i) by omega]; exact this
    · obtain ⟨i, hi, rfl⟩ := List.mem_map.1 hq
      have hi' : i < len := by simpa using hi
      have h1 := bulk_all (H := H) (List.mem_map.2 ⟨i, hi, rfl⟩ : D i ∈ (List.range len).map D)
      rw [(hp i (by omega)).2, pair_bulk] at h1
      have h2 : Rows.uptoBulkAll ((List.range len).map D) ≤ 1048576 := by
        simp only [Rows.uptoBulk] at hB; omega
      omega
end
end Go.Proofs.YtmmoenbmgcplkaaGreatDoor
set_option linter.unusedVariables false
set_option linter.unusedSimpArgs false
namespace Go.Proofs.YtmmoenbmgcplkaaGreatDoor
open Go Go.RowKit Go.ChangeShapes Go.WideShapes Go.Deep
theorem list3 {α : Type} {l : List α} (h : l.length = 3) : ∃ a b c, l = [a, b, c] := by
  match l, h with
  | [a, b, c], _ => exact ⟨a, b, c, rfl⟩
theorem list6 {α : Type} {l : List α} (h : l.length = 6) : ∃ a b c d e f, l = [a, b, c, d, e, f] := by
  match l, h with
  | [a, b, c, d, e, f], _ => exact ⟨a, b, c, d, e, f, rfl⟩
theorem trod_struct3 {H : Type} {enc : TypeId × Value → H} {P : Program} {w : World} {base : Nat} {spare : Nat → Bool} {held : Bool} {t : TypeId} {f0 f1 f2 : Field} {fuel : Nat} {cs : List Value} {x : DataW H × List MemPlace} (ht : P.underlying t = some (.struct #[f0, f1, f2])) (h : DataW.trod enc P w base spare held fuel t cs = some x) :
    ∃ y0 y1 y2 n, x.1 = .agg [y0.1, y1.1, y2.1] ∧ cs.length = P.cellsOf t ∧ DataW.trod enc P w base spare held n f0.type ((cs.drop f0.offset).take (P.cellsOf f0.type)) = some y0 ∧
      DataW.trod enc P w base spare held n f1.type ((cs.drop f1.offset).take (P.cellsOf f1.type)) = some y1 ∧ DataW.trod enc P w base spare held n f2.type ((cs.drop f2.offset).take (P.cellsOf f2.type)) = some y2 := by
  obtain ⟨xs, n, _, rfl, hl, hlen, hf⟩ := DataW.trod_struct ht h
  obtain ⟨y0, y1, y2, rfl⟩ := list3 (hlen.trans rfl)
  exact ⟨y0, y1, y2, n, by simp, hl, by simpa using hf 0 f0 rfl, by simpa using hf 1 f1 rfl, by simpa using hf 2 f2 rfl⟩
theorem trod_struct6 {H : Type} {enc : TypeId × Value → H} {P : Program} {w : World} {base : Nat} {spare : Nat → Bool} {held : Bool} {t : TypeId} {f0 f1 f2 f3 f4 f5 : Field} {fuel : Nat} {cs : List Value} {x : DataW H × List MemPlace} (ht : P.underlying t = some (.struct #[f0, f1, f2, f3, f4, f5])) (h : DataW.trod enc P w base spare held fuel t cs = some x) :
    ∃ y0 y1 y2 y3 y4 y5 n, x.1 = .agg [y0.1, y1.1, y2.1, y3.1, y4.1, y5.1] ∧ cs.length = P.cellsOf t ∧ DataW.trod enc P w base spare held n f0.type ((cs.drop f0.offset).take (P.cellsOf f0.type)) = some y0 ∧
      DataW.trod enc P w base spare held n f1.type ((cs.drop f1.offset).take (P.cellsOf f1.type)) = some y1 ∧ DataW.trod enc P w base spare held n f2.type ((cs.drop f2.offset).take (P.cellsOf f2.type)) = some y2 ∧
      DataW.trod enc P w base spare held n f3.type ((cs.drop f3.offset).take (P.cellsOf f3.type)) = some y3 ∧ DataW.trod enc P w base spare held n f4.type ((cs.drop f4.offset).take (P.cellsOf f4.type)) = some y4 ∧
      DataW.trod enc P w base spare held n f5.type ((cs.drop f5.offset).take (P.cellsOf f5.type)) = some y5 := by
  obtain ⟨xs, n, _, rfl, hl, hlen, hf⟩ := DataW.trod_struct ht h
  obtain ⟨y0, y1, y2, y3, y4, y5, rfl⟩ := list6 (hlen.trans rfl)
  exact ⟨y0, y1, y2, y3, y4, y5, n, by simp, hl, by simpa using hf 0 f0 rfl, by simpa using hf 1 f1 rfl, by simpa using hf 2 f2 rfl, by simpa using hf 3 f3 rfl, by simpa using hf 4 f4 rfl, by simpa using hf 5 f5 rfl⟩
section
variable {H : Type} {enc : TypeId × Value → H} {W : World} {sp : Nat → Bool} {hd : Bool}
def userDat (u : UserD) : DataW H := .agg [.lit (.string u.name), .lit (.string u.id), .lit (.string u.sec)]
theorem int_ofS {fuel : Nat} {c : Value} {y : DataW H × List MemPlace} (h : DataW.trod enc Tryz.prog W 0 sp hd fuel 3 [c] = some y) : ∃ n, c = .int .i64 n ∧ y.1 = .lit (.int .i64 n) := by
  obtain ⟨n, e, e2, _⟩ := DataW.trod_int Tryz.underlying3 h
  exact ⟨n, by simpa using e, by rw [e2]⟩
theorem bool_ofS {fuel : Nat} {c : Value} {y : DataW H × List MemPlace} (h : DataW.trod enc Tryz.prog W 0 sp hd fuel 4 [c] = some y) : ∃ n, c = .bool n ∧ y.1 = .lit (.bool n) := by
  obtain ⟨n, e, e2⟩ := DataW.trod_bool Tryz.underlying4 h
  exact ⟨n, by simpa using e, by rw [e2]⟩
theorem user_of {fuel : Nat} {cs : List Value} {y : DataW H × List MemPlace} (h : DataW.trod enc Tryz.prog W 0 sp hd fuel 26 cs = some y) : ∃ u : UserD, cs = userC u ∧ y.1 = userDat u := by
  obtain ⟨y0, y1, y2, n, hx, hl, g0, g1, g2⟩ := trod_struct3 Tryz.underlying26 h
  have hc : Tryz.prog.cellsOf 26 = 3 := by kernel_rfl
  have hs : Tryz.prog.cellsOf 9 = 1 := by kernel_rfl
  rw [hc] at hl
  obtain ⟨c0, c1, c2, rfl⟩ := list3 hl
  simp only [hs, List.drop_zero, List.drop_succ_cons, List.take_succ_cons, List.take_zero] at g0 g1 g2
  obtain ⟨s0, rfl, x0⟩ := str_of g0
  obtain ⟨s1, rfl, x1⟩ := str_of g1
  obtain ⟨s2, rfl, x2⟩ := str_of g2
  exact ⟨⟨s0, s1, s2⟩, rfl, by rw [hx, x0, x1, x2]; rfl⟩
theorem user_bulk (u : UserD) : Rows.uptoBulk (userDat (H := H) u) = u.name.length + 1 + (u.id.length + 1 + (u.sec.length + 1)) + 1 := by
  simp [userDat, Rows.uptoBulk, Rows.uptoBulkAll]
set_option maxRecDepth 100000 in
theorem user_open {b0 : Nat} {v : Value} {d : DataW H} {q : List MemPlace} (hv : Value.okWide Tryz.prog W .any b0 26 v) (h : DataW.Trod enc Tryz.prog W 0 (fun _ => true) hd 26 v d q) : ∃ u : UserD, v = .agg (userC u).toArray ∧ d = userDat u := by
  obtain ⟨cs, rfl, hsz⟩ := okWide_struct Tryz.underlying26 hv
  obtain ⟨fuel, hf⟩ := h
  obtain ⟨u, hp, hd⟩ := user_of hf
  exact ⟨u, by rw [← hp]; rfl, hd⟩
theorem trod_pairs_form {fuel : Nat} {cs : List Value} {y : DataW H × List MemPlace} (h : DataW.trod enc Tryz.prog W 0 sp hd fuel 22 cs = some y) : ∃ A l c, cs = [.slice A l c] := by
  rcases open_slice Tryz.underlying22 h with ⟨hcs, _⟩ | ⟨a', len', cap', m, n, D, Pl, hcs, _⟩
  · exact ⟨_, _, _, hcs⟩
  · exact ⟨_, _, _, hcs⟩
structure ReqIn (W : World) (r : ReqD) (A : Option Addr) (n cap : Nat) : Prop where
  p : PairsAt W A n r.fs
  c : n ≤ cap
  cap : cap ≤ 9223372036854775807
  tg : r.tg.length ≤ 1048576
  m : r.m.length ≤ 1048576
  hv : heavy r.fs ≤ 1048576
  body : r.body.length ≤ 1048576
set_option maxRecDepth 100000 in
theorem request_open {b0 : Nat} {v : Value} {d : DataW H} {q : List MemPlace} (hv : Value.okWide Tryz.prog W .any b0 24 v) (h : DataW.Trod enc Tryz.prog W 0 (fun _ => true) hd 24 v d q) (hB : Rows.uptoBulk d ≤ 1048576) (hz : ∀ x ∈ d.weights Tryz.prog 24, x ≤ reachBytes) :
    ∃ (r : ReqD) (A : Option Addr) (n cap : Nat), v = .agg (reqC r A n cap).toArray ∧ ReqIn W r A n cap := by
  obtain ⟨cs, rfl, hsz⟩ := okWide_struct Tryz.underlying24 hv
  obtain ⟨fuel, hf⟩ := h
  obtain ⟨y0, y1, y2, y3, y4, y5, n, hx, hl, g0, g1, g2, g3, g4, g5⟩ := trod_struct6 Tryz.underlying24 hf
  have hc : Tryz.prog.cellsOf 24 = 6 := by kernel_rfl
  have hi : Tryz.prog.cellsOf 3 = 1 := by kernel_rfl
  have hs : Tryz.prog.cellsOf 9 = 1 := by kernel_rfl
  have hb : Tryz.prog.cellsOf 4 = 1 := by kernel_rfl
  have hp : Tryz.prog.cellsOf 22 = 1 := by kernel_rfl
  obtain ⟨c0, c1, c2, c3, c4, c5, e⟩ := list6 (l := cs.toList) (by rw [Array.length_toList, hsz, hc])
  simp only [Value.cells, e] at g0 g1 g2 g3 g4 g5
  simp only [hi, hs, hb, hp, List.drop_zero, List.drop_succ_cons, List.take_succ_cons, List.take_zero] at g0 g1 g2 g3 g4 g5
  obtain ⟨s0, rfl, x0⟩ := str_of g0
  obtain ⟨s1, rfl, x1⟩ := str_of g1
  obtain ⟨n2, rfl, x2⟩ := int_ofS g2
  obtain ⟨s4, rfl, x4⟩ := str_of g4
  obtain ⟨b5, rfl, x5⟩ := bool_ofS g5
  obtain ⟨A, l, c, h3⟩ := trod_pairs_form g3
  have h3' : c3 = .slice A l c := by simpa using h3
  subst h3'
  have hx' : d = .agg [y0.1, y1.1, y2.1, y3.1, y4.1, y5.1] := hx
  have hb2 : Rows.uptoBulk y0.1 + (Rows.uptoBulk y1.1 + (Rows.uptoBulk y2.1 + (Rows.uptoBulk y3.1 + (Rows.uptoBulk y4.1 + (Rows.uptoBulk y5.1 + 0))))) + 1 ≤ 1048576 := by
    rw [hx'] at hB
    simpa [Rows.uptoBulk, Rows.uptoBulkAll] using hB
  have k0 : Rows.uptoBulk y0.1 = s0.length + 1 := by rw [x0]; simp [Rows.uptoBulk]
  have k1 : Rows.uptoBulk y1.1 = s1.length + 1 := by rw [x1]; simp [Rows.uptoBulk]
  have k4 : Rows.uptoBulk y4.1 = s4.length + 1 := by rw [x4]; simp [Rows.uptoBulk]
  obtain ⟨ps, h1, h2, h3, h4, h5, h6⟩ := pairs_of g3 (by omega) (fun x hx3 => hz x (by
    rw [hx', DataW.weights, Tryz.underlying24]
    simp only [DataW.weightsEach, List.map_cons, List.mem_append, List.map_nil]
    simp [hx3]))
  refine ⟨⟨s0, s1, n2, ps, s4, b5⟩, A, l, c, ?_, h1, h4, by omega, by show s1.length ≤ _; omega, by show s0.length ≤ _; omega, h6, by show s4.length ≤ _; omega⟩
  rw [show cs = cs.toList.toArray from (Array.toArray_toList).symm, e]
  rfl
end
end Go.Proofs.YtmmoenbmgcplkaaGreatDoor
set_option linter.unusedVariables false
set_option linter.unusedSimpArgs false
namespace Go.Proofs.YtmmoenbmgcplkaaGreatDoor
open Go Go.RowKit
structure SgBk (w W : World) (N MW MX G n : Nat) (r : ReqD) (A : Option Addr) (c : Nat) (u : UserD) (q0 : ReqD) (Aw : Option Addr) (Lw cw : Nat) : Prop where
  q : Q w W
  b : RB W N r (.slice A n c)
  u : UB W (N + 1) u
  wb : RB W MW q0 (.slice Aw Lw cw)
  wp : PairsAt W Aw Lw q0.fs
  x : RB W MX r (.slice (some ⟨G, 0, none⟩) n (n + 1))
  m : Marked W r G n
theorem SgBk.mv {w W W' : World} {N MW MX G n : Nat} {r : ReqD} {A : Option Addr} {c : Nat} {u : UserD} {q0 : ReqD} {Aw : Option Addr} {Lw cw : Nat} (h : SgBk w W N MW MX G n r A c u q0 Aw Lw cw) (hq : Q W W') : SgBk w W' N MW MX G n r A c u q0 Aw Lw cw :=
  ⟨h.q.trans hq, h.b.q hq, h.u.q hq, h.wb.q hq, h.wp.q hq, h.x.q hq, h.m.q hq⟩
structure SgIn (w1 W : World) (MQ : Nat) (q0 : ReqD) (A : Option Addr) (L c : Nat) : Prop where
  q : Q w1 W
  b : RB W MQ q0 (.slice A L c)
  o : ∃ ps, OwnU w1 W (.slice A L c) ps
theorem OwnU.len {w0 w : World} {A : Option Addr} {n c : Nat} {l : List PairD} (h : OwnU w0 w (.slice A n c) l) : n = l.length := by
  obtain ⟨A', c', e, _, _⟩ := h.pairs
  injection e
theorem OwnU.some {w0 w : World} {A : Option Addr} {n c : Nat} {l : List PairD} (h : OwnU w0 w (.slice A n c) l) (hn : 0 < n) : ∃ g, A = some ⟨g, 0, none⟩ := by
  rcases h.2 with ⟨hv, h0⟩ | ⟨g, cap', cur, hv, _⟩
  · cases hv; omega
  · cases hv; exact ⟨g, rfl⟩
def qmP : PairD := ([63], [])
set_option maxRecDepth 100000 in
set_option maxHeartbeats 16000000 in
theorem SignSigns_law (r : ReqD) (A : Option Addr) (n c : Nat) (u : UserD) (now : Int) (rg : List UInt8) (w : World) (h : ReqIn w r A n c)
    (wl : -9223372036854775808 ≤ now) (wh : now ≤ 9223372036854775807) (h1 : u.name.length ≤ 1048576) (h2 : u.id.length ≤ 1048576) (h3 : u.sec.length ≤ 1048576) (hrg : rg.length ≤ 1048576) (hS : S17 w) :
    Calls Tryz.prog 7 #[.agg (reqC r A n c).toArray, .agg (userC u).toArray, .int .i64 now, .string ⟨rg.toArray⟩] w fun e w' => e = .returned (.bool true) ∧ Q w w' := by
  have hf := h.p
  have hc := h.c
  have hcap := h.cap
  have hcnt := heavy_count r.fs
  have hv := h.hv
  have hn0 := hf.1
  have hok : SignOk r u rg := ⟨by have := h.tg; omega, by have := h.m; omega, by unfold heavy at hv; omega, by have := h.body; omega, by omega, by omega, by omega⟩
  have hn1 : n ≤ 1100000 := by omega
  have HEx := Lib.hid (fun W (hq : Q w W) => examples17_any W (hS.q hq))
  have HCp := Lib.hid (fun W (hq : Q w W) => copied_any r A n c W (hf.q hq) hn1)
  unfold CpPost at HCp
  obtain ⟨QO, hQO⟩ : ∃ q, signQ r u now rg = q := ⟨_, rfl⟩
  obtain ⟨q0, hq0⟩ : ∃ q, QO.getD zeroR = q := ⟨_, rfl⟩
  obtain ⟨OKB, hOKB⟩ : ∃ b, QO.isSome = b := ⟨_, rfl⟩
  obtain ⟨EE, hEE⟩ : ∃ e : Int, (if OKB = true then (0 : Int) else 1) = e := ⟨_, rfl⟩
  have HRC : Hid (∀ W, Q w W → Calls Tryz.prog 20 #[.agg (reqC r A n c).toArray, .agg (userC u).toArray, .int .i64 now, .string ⟨rg.toArray⟩] W fun e w' => (∃ v, e = .returned (.tuple #[.agg (reqV q0 v).toArray, .bool OKB]) ∧ OwnU W w' v q0.fs) ∧ Q W w') := Lib.hid (fun W hq => by
    refine (RSign_any r A n c u now rg W (hf.q hq) hc hcap hok).mono fun e w' hp => ?_
    rw [hQO] at hp
    rw [← hq0, ← hOKB]
    clear hq0 hOKB hEE hQO
    unfold RSignPost at hp
    rcases QO with _ | q
    · exact ⟨⟨_, hp.1, OwnU.nil _ _⟩, hp.2⟩
    · obtain ⟨v, h1, h2, h3⟩ := hp
      exact ⟨⟨v, h1, h2⟩, h3⟩)
  have HCn : Hid (∀ (G : Nat) W, Q w W → Marked W r G n → Calls Tryz.prog 10 #[.agg (reqC r (some ⟨G, 0, none⟩) n (n + 1)).toArray, .agg (userC u).toArray, .int .i64 now, .string ⟨rg.toArray⟩] W fun e w' => (∃ v, e = .returned (.tuple #[.agg (reqV q0 v).toArray, .int .i64 EE]) ∧ OwnU W w' v q0.fs) ∧ Q W w') := Lib.hid (fun G W hq hm => by
    refine (Sign_any r (some ⟨G, 0, none⟩) n (n + 1) u now rg W hm.p (by omega) (by omega) hok (hS.q hq)).mono fun e w' hp => ?_
    rw [hQO] at hp
    rw [← hq0, ← hEE, ← hOKB]
    clear hq0 hOKB hEE hQO
    unfold SignPost at hp
    rcases QO with _ | q
    · exact ⟨⟨_, hp.1, OwnU.nil _ _⟩, hp.2⟩
    · obtain ⟨v, h1, h2, h3⟩ := hp
      exact ⟨⟨v, h1, h2⟩, h3⟩)
  have HSt := Lib.hid (fun (G : Nat) W (hq : Q w W) (hm : Marked W r G n) => still_any r A G n c W hm (hf.q hq) hn1)
  have hq0l : q0.fs.length ≤ 1100000 := by
    rw [← hq0, ← hQO]
    unfold signQ
    split
    · split
      · simp [zeroR]
      · simp only [Option.getD_some, dressR, List.length_append, List.length_cons, List.length_nil]; omega
    · simp [zeroR]
  have HSm := Lib.hid (fun (A1 A2 : Option Addr) (L c1 c2 : Nat) W (h1 : PairsAt W A1 L q0.fs) (h2 : PairsAt W A2 L q0.fs) => RSame_true q0 A1 A2 L c1 c2 W h1 h2 (by rw [h1.1]; omega))
  obtain ⟨N, w1, hN, e1, hb1, hq1⟩ : ∃ N w1, w.heap.size = N ∧ w.alloc (.cells (reqV r (.slice A n c)).toArray 24) = w1 ∧ RB w1 N r (.slice A n c) ∧ Q w w1 := ⟨_, _, rfl, rfl, RB.new w r _, (Q.refl w).alloc _⟩
  obtain ⟨w2, hN1, e2, hb2, hu2, hq2⟩ : ∃ w2, w1.heap.size = N + 1 ∧ w1.alloc (.cells (userC u).toArray 26) = w2 ∧ RB w2 N r (.slice A n c) ∧ UB w2 (N + 1) u ∧ Q w w2 := by
    have hs1 : w1.heap.size = N + 1 := by rw [← e1, ← hN]; show (w.heap.push _).size = _; simp
    refine ⟨_, hs1, rfl, hb1.q ((Q.refl w1).alloc _), ?_, hq1.alloc _⟩
    rw [← hs1]; exact UB.new w1 u
  have HB := Lib.hid hb2
  have HU := Lib.hid hu2
  have HQ := Lib.hid hq2
  have HN0 := Lib.hid hn0
  have HEE := Lib.hid hEE
  clear h hf hc hcap hcnt hv hn0 hok hS hb1 hq1 hb2 hu2 hq2 hQO hq0 hOKB hEE hrg h1 h2 h3 QO
  obtain ⟨m, tg, minor, fs, body, close⟩ := r
  obtain ⟨name, id, sec⟩ := u
  obtain ⟨m0, tg0, minor0, fs0, body0, close0⟩ := q0
  simp only [reqV, userC] at e1 e2
  try simp only at HN0
  try simp only at hq0l
  try simp only at HSm
  try simp only at HCn
  try simp only at HRC
  unfold reqC userC reqV at HCn HRC
  unfold reqC at HCp HSt HSm ⊢
  unfold userC
  go_enter Tryz.func7, Tryz.ntmps7
  go_wp2_with fail
  refine (HEx.out _ HQ.out).mono ?_
  rintro e w3 ⟨rfl, hq3⟩
  have HB3 := Lib.hid (HB.out.q hq3)
  have HU3 := Lib.hid (HU.out.q hq3)
  have HQ3 := Lib.hid (HQ.out.trans hq3)
  clear hq3 HB HU HQ HEx e1 e2 hN hN1
  obtain ⟨b0, b1, b2, b3, b4, b5⟩ := HB3.out.c
  obtain ⟨c0, c1, c2⟩ := HU3.out.c
  simp only at b0 b1 b2 b4 b5 c0 c1 c2
  go_wp2_with fail
  refine (HRC.out _ HQ3.out).mono ?_
  rintro e w4 ⟨⟨vw, rfl, hw4⟩, hq4⟩
  obtain ⟨Aw, cw, rfl, hcw, hpw⟩ := hw4.pairs
  try simp only at hcw
  try simp only at hpw
  obtain ⟨Lw, hLw⟩ : ∃ L, fs0.length = L := ⟨_, rfl⟩
  rw [hLw] at hcw hpw hq0l ⊢
  have HLW := Lib.hid hLw
  have HQ4 := Lib.hid (HQ3.out.trans hq4)
  have HB4 := Lib.hid (HB3.out.q hq4)
  have HU4 := Lib.hid (HU3.out.q hq4)
  have HP4 := Lib.hid hpw
  clear hq4 hw4 hLw hcw hpw b0 b1 b2 b3 b4 b5 c0 c1 c2 HB3 HU3 HQ3 HRC
  obtain ⟨MW, Y1, Y2, hM, hY1, hl1, hY2, hl2, hq2⟩ := rq_boxes w4 ⟨m0, tg0, minor0, fs0, body0, close0⟩ (.slice Aw Lw cw)
  have hY1b : w4.alloc (.cells #[.string ⟨#[]⟩, .string ⟨#[]⟩, .int .i64 0, .slice none 0 0, .string ⟨#[]⟩, .bool false] 24) = Y1 := hY1
  have HQ5 := Lib.hid (HQ4.out.trans hq2)
  have HB5 := Lib.hid (HB4.out.q hq2)
  have HU5 := Lib.hid (HU4.out.q hq2)
  have HP5 := Lib.hid (HP4.out.q hq2)
  have HW5 := Lib.hid hl2
  clear hl2 hq2 HQ4 HB4 HU4 HP4
  go_upto_region 3 with (refine wpList_store_row rfl 24 _ _ rfl MW (reqV ⟨m0, tg0, minor0, fs0, body0, close0⟩ (.slice Aw Lw cw)).toArray (by rfl) (by rfl) 24 _ hl1 (infoReqS _ _) rfl (reqV_one _ _ _ _) ?_)
  try rw [hY2]
  obtain ⟨Z5, hZ⟩ : ∃ W, Y2 = W := ⟨_, rfl⟩
  rw [hZ] at HQ5 HB5 HU5 HP5 HW5 ⊢
  clear hZ hM hY1 hl1 hY2 hY1b Y1 Y2
  obtain ⟨b0, b1, b2, b3, b4, b5⟩ := HB5.out.c
  simp only at b0 b1 b2 b4 b5
  go_wp2_with fail
  refine (HCp.out _ HQ5.out).mono ?_
  rintro e w6 ⟨⟨G, rfl, ho6⟩, hq6⟩
  have HM6 : Hid (Marked w6 ⟨m, tg, minor, fs, body, close⟩ G n) := Lib.hid (marked_of ho6 HN0.out)
  have HQ6 := Lib.hid (HQ5.out.trans hq6)
  have HB6 := Lib.hid (HB5.out.q hq6)
  have HU6 := Lib.hid (HU5.out.q hq6)
  have HP6 := Lib.hid (HP5.out.q hq6)
  have HW6 := Lib.hid (HW5.out.q hq6)
  clear hq6 ho6 b0 b1 b2 b3 b4 b5 HB5 HQ5 HU5 HP5 HW5 HCp
  obtain ⟨MX, Y1, Y2, hM, hY1, hl1, hY2, hl2, hq2⟩ := rq_boxes w6 ⟨m, tg, minor, fs, body, close⟩ (.slice (some ⟨G, 0, none⟩) n (n + 1))
  have hY1b : w6.alloc (.cells #[.string ⟨#[]⟩, .string ⟨#[]⟩, .int .i64 0, .slice none 0 0, .string ⟨#[]⟩, .bool false] 24) = Y1 := hY1
  have HK : Hid (SgBk w Y2 N MW MX G n ⟨m, tg, minor, fs, body, close⟩ A c ⟨name, id, sec⟩ ⟨m0, tg0, minor0, fs0, body0, close0⟩ Aw Lw cw) :=
    Lib.hid ⟨HQ6.out.trans hq2, HB6.out.q hq2, HU6.out.q hq2, HW6.out.q hq2, HP6.out.q hq2, hl2, HM6.out.q hq2⟩
  clear hl2 hq2 HQ6 HM6 HB6 HU6 HP6 HW6
  go_upto_region 4 with (refine wpList_store_row rfl 24 _ _ rfl MX (reqV ⟨m, tg, minor, fs, body, close⟩ (.slice (some ⟨G, 0, none⟩) n (n + 1))).toArray (by rfl) (by rfl) 24 _ hl1 (infoReqS _ _) rfl (reqV_one _ _ _ _) ?_)
  try rw [hY2]
  obtain ⟨Z7, hZ⟩ : ∃ W, Y2 = W := ⟨_, rfl⟩
  rw [hZ] at HK ⊢
  clear hZ hM hY1 hl1 hY2 hY1b Y1 Y2
  rcases OKB with _ | _
  all_goals
    have hee := HEE.out
    simp only [Bool.false_eq_true, if_false, if_true] at hee
    subst hee
    go_wp2_with fail
    go_loopw [13] (fun t wr => ∃ j : Nat, j ≤ 2 ∧ t = .int .i64 (j : Int) ∧ Hid (SgBk w wr N MW MX G n ⟨m, tg, minor, fs, body, close⟩ A c ⟨name, id, sec⟩ ⟨m0, tg0, minor0, fs0, body0, close0⟩ Aw Lw cw)) (fun t _ => 2 - (intOf t).toNat)
    case atStart => exact ⟨0, by omega, rfl, HK⟩
    case round =>
      obtain ⟨j, hj, rfl, HKr⟩ := hrel
      clear HK
      rename World => wa
      by_cases hlt : j < 2
      · have g1 : decide ((j : Int) < 2) = true := by simp; omega
        obtain ⟨b0, b1, b2, b3, b4, b5⟩ := HKr.out.x.c
        obtain ⟨c0, c1, c2⟩ := HKr.out.u.c
        simp only at b0 b1 b2 b3 b4 b5 c0 c1 c2
        go_wp2_with fail
        refine (HCn.out G _ HKr.out.q HKr.out.m).mono ?_
        rintro e wb ⟨⟨vq, rfl, hob⟩, hqb⟩
        have hKb := Lib.hid (HKr.out.mv hqb)
        obtain ⟨Aq, cq, rfl, hcq, hpq⟩ := hob.pairs
        try simp only at hcq
        try simp only at hpq
        rw [HLW.out] at hpq hob ⊢
        have HOb := Lib.hid hob
        have HPb := Lib.hid hpq
        have HSZ : Hid (Q wa wb) := Lib.hid hqb
        clear hqb hob hpq hcq b0 b1 b2 b3 b4 b5 c0 c1 c2
        obtain ⟨MQ, Y1, Y2, hM, hY1, hl1, hY2, hl2, hq2⟩ := rq_boxes wb ⟨m0, tg0, minor0, fs0, body0, close0⟩ (.slice Aq Lw cq)
        have hY1b : wb.alloc (.cells #[.string ⟨#[]⟩, .string ⟨#[]⟩, .int .i64 0, .slice none 0 0, .string ⟨#[]⟩, .bool false] 24) = Y1 := hY1
        have HKc := Lib.hid (hKb.out.mv hq2)
        have HOc := Lib.hid (HOb.out.q hq2)
        have HPc := Lib.hid (HPb.out.q hq2)
        have HQc := Lib.hid (HSZ.out.trans hq2)
        have HXc := Lib.hid hl2
        have HMQ : Hid (wb.heap.size = MQ) := Lib.hid hM
        clear hl2 hq2 hKb HPb
        go_upto_region 8 with (refine wpList_store_row rfl 24 _ _ rfl MQ (reqV ⟨m0, tg0, minor0, fs0, body0, close0⟩ (.slice Aq Lw cq)).toArray (by rfl) (by rfl) 24 _ hl1 (infoReqS _ _) rfl (reqV_one _ _ _ _) ?_)
        try rw [hY2]
        obtain ⟨Z8, hZ⟩ : ∃ W, Y2 = W := ⟨_, rfl⟩
        rw [hZ] at HKc HOc HPc HQc HXc ⊢
        clear hZ hM hY1 hl1 hY2 hY1b Y1 Y2
        obtain ⟨b0, b1, b2, b3, b4, b5⟩ := HXc.out.c
        obtain ⟨c0, c1, c2, c3, c4, c5⟩ := HKc.out.wb.c
        simp only at b0 b1 b2 b3 b4 b5 c0 c1 c2 c3 c4 c5
        go_wp2_with fail
        refine (HSm.out Aq Aw Lw cq cw _ HPc.out HKc.out.wp).mono ?_
        rintro e wd ⟨rfl, hqd⟩
        have HKd := Lib.hid (HKc.out.mv hqd)
        have HId : Hid (SgIn wa wd MQ ⟨m0, tg0, minor0, fs0, body0, close0⟩ Aq Lw cq) := Lib.hid ⟨HQc.out.trans hqd, HXc.out.q hqd, ⟨_, HOc.out.q hqd⟩⟩
        have HLo : Hid (wa.heap.size ≤ MQ) := Lib.hid (by rw [← HMQ.out]; exact HSZ.out.size)
        have HKa := Lib.hid HKr.out
        clear hqd b0 b1 b2 b3 b4 b5 c0 c1 c2 c3 c4 c5 HKc HOc HPc HQc HXc HSZ HOb HMQ HKd
        have g2 : decide ((0 : Int) < (Lw : Int)) = decide (0 < Lw) := by simp
        clear g2
        go_wp2_with fail
        go_loopw [17] (fun t wr => ∃ i : Nat, i ≤ Lw ∧ t = .int .i64 (i : Int) ∧ Hid (SgIn wa wr MQ ⟨m0, tg0, minor0, fs0, body0, close0⟩ Aq Lw cq)) (fun t _ => Lw - (intOf t).toNat)
        case atStart => exact ⟨0, by omega, rfl, HId⟩
        case round =>
          obtain ⟨i, hi, rfl, HIr⟩ := hrel
          clear HId
          rename World => we
          by_cases hli : i < Lw
          · have g3 : decide (i < Lw) = true := by simpa using hli
            obtain ⟨ps, ho⟩ := HIr.out.o
            obtain ⟨g, hg, hgs, hth, ho2, hg2⟩ := ho.setU i hli qmP
            subst hg
            have b3 := HIr.out.b.c.2.2.2.1
            have hgm : g ≠ MQ := by
              intro e
              subst e
              have := (ho.block (k := g) rfl).2.2
              obtain ⟨cur, fz, hc⟩ := this
              have h2 := hc.symm.trans HIr.out.b
              injection h2 with h2; injection h2 with _ h3; exact absurd h3 (by decide)
            have HIn : Hid (SgIn wa (we.setCells g (i * 2) (pairL qmP)) MQ ⟨m0, tg0, minor0, fs0, body0, close0⟩ (some ⟨g, 0, none⟩) Lw cq) := Lib.hid ⟨Below.grown HIr.out.q hg2 HIr.out.q.size (fun k hk => by cases hk; exact hgs), HIr.out.b.gb hg2 (fun e => hgm (by injection e)), ⟨_, ho2⟩⟩
            have HGS := Lib.hid hgs
            clear ho ho2 hg2 hgs hgm
            go_upto_region 13 with (refine wpList_store_mid rfl 37 _ _ rfl g (i * 2) (pairL qmP).toArray (by rfl) (by rfl) hth infoP (pairL_one _) ?_)
            obtain ⟨wf, hwf⟩ : ∃ W, we.setCells g (i * 2) (pairL qmP) = W := ⟨_, rfl⟩
            rw [hwf] at HIn
            have hwfb : we.setCells g (i * 2) (pairL qmP).toArray.toList = wf := hwf
            first | rw [hwf] | rw [hwfb]
            clear hwf hwfb hth b3
            go_wp2_with fail
            go_roundw
            case rel => exact ⟨i + 1, by omega, by go_num, HIn⟩
            case measure => simp [intOf]; omega
          · have g3 : decide (i < Lw) = false := by simpa using hli
            have b3 := HIr.out.b.c.2.2.2.1
            have HKn := Lib.hid (HKa.out.mv HIr.out.q)
            clear hli
            go_wp2_with fail
            go_roundw
            case rel => exact ⟨j + 1, by omega, by go_num, HKn⟩
            case measure => simp [intOf]; omega
      · have g1 : decide ((j : Int) < 2) = false := by simp; omega
        obtain ⟨b0, b1, b2, b3, b4, b5⟩ := HKr.out.x.c
        obtain ⟨c0, c1, c2, c3, c4, c5⟩ := HKr.out.b.c
        simp only at b0 b1 b2 b3 b4 b5 c0 c1 c2 c3 c4 c5
        clear hlt
        go_wp2_with fail
        refine (HSt.out G _ HKr.out.q HKr.out.m).mono ?_
        rintro e wb ⟨rfl, hqb⟩
        have HQb := Lib.hid (HKr.out.q.trans hqb)
        clear hqb b0 b1 b2 b3 b4 b5 c0 c1 c2 c3 c4 c5
        go_wp2_with fail
        go_ret
        exact ⟨rfl, HQb.out⟩
end Go.Proofs.YtmmoenbmgcplkaaGreatDoor
