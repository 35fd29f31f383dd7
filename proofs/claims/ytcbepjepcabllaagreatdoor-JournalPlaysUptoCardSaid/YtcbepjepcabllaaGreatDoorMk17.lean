/- Texts of this proof, laid into one: JsS. -/
import Derived.Test.YtcbepjepcabllaaGreatDoorMk16
import Derived.SizedLaws
import Derived.Deep.Slices
/- Steps that came in, opened. -/
set_option linter.unusedVariables false
set_option linter.unusedSimpArgs false
namespace Go.Proofs.YtcbepjepcabllaaGreatDoor
open Go Go.RowKit Go.ChangeShapes Go.WideShapes Go.Deep
theorem list6 {α : Type} {l : List α} (h : l.length = 6) : ∃ a b c d e f, l = [a, b, c, d, e, f] := by
  match l, h with
  | [a, b, c, d, e, f], _ => exact ⟨a, b, c, d, e, f, rfl⟩
theorem str_back (s : ByteArray) : Value.string s = .string ⟨s.data.toList.toArray⟩ := by cases s; rfl
theorem trod_struct6 {H : Type} {enc : TypeId × Value → H} {P : Program} {w : World} {base : Nat} {spare : Nat → Bool} {held : Bool} {t : TypeId} {f0 f1 f2 f3 f4 f5 : Field} {fuel : Nat} {cs : List Value} {x : DataW H × List MemPlace} (ht : P.underlying t = some (.struct #[f0, f1, f2, f3, f4, f5])) (h : DataW.trod enc P w base spare held fuel t cs = some x) :
    ∃ y0 y1 y2 y3 y4 y5 n, x.1 = .agg [y0.1, y1.1, y2.1, y3.1, y4.1, y5.1] ∧ cs.length = P.cellsOf t ∧ DataW.trod enc P w base spare held n f0.type ((cs.drop f0.offset).take (P.cellsOf f0.type)) = some y0 ∧
      DataW.trod enc P w base spare held n f1.type ((cs.drop f1.offset).take (P.cellsOf f1.type)) = some y1 ∧ DataW.trod enc P w base spare held n f2.type ((cs.drop f2.offset).take (P.cellsOf f2.type)) = some y2 ∧
      DataW.trod enc P w base spare held n f3.type ((cs.drop f3.offset).take (P.cellsOf f3.type)) = some y3 ∧ DataW.trod enc P w base spare held n f4.type ((cs.drop f4.offset).take (P.cellsOf f4.type)) = some y4 ∧
      DataW.trod enc P w base spare held n f5.type ((cs.drop f5.offset).take (P.cellsOf f5.type)) = some y5 := by
  obtain ⟨xs, n, _, rfl, hl, hlen, hf⟩ := DataW.trod_struct ht h
  obtain ⟨y0, y1, y2, y3, y4, y5, rfl⟩ := list6 (hlen.trans rfl)
  exact ⟨y0, y1, y2, y3, y4, y5, n, by simp, hl, by simpa using hf 0 f0 rfl, by simpa using hf 1 f1 rfl, by simpa using hf 2 f2 rfl, by simpa using hf 3 f3 rfl, by simpa using hf 4 f4 rfl, by simpa using hf 5 f5 rfl⟩
section
variable {H : Type} {enc : TypeId × Value → H} {W : World}
theorem bulk_all {d : DataW H} {l : List (DataW H)} (h : d ∈ l) : Rows.uptoBulk d ≤ Rows.uptoBulkAll l := by
  induction l with
  | nil => cases h
  | cons a r ih =>
    simp only [Rows.uptoBulkAll]
    rcases List.mem_cons.1 h with h | h
    · subst h; omega
    · have := ih h; omega
theorem bulk_pos (d : DataW H) : 1 ≤ Rows.uptoBulk d := by
  cases d with
  | lit l => cases l <;> simp [Rows.uptoBulk]
  | _ => simp [Rows.uptoBulk]
theorem bulk_len (l : List (DataW H)) : l.length ≤ Rows.uptoBulkAll l := by
  induction l with
  | nil => simp
  | cons a r ih => have := bulk_pos a; simp only [Rows.uptoBulkAll, List.length_cons]; omega
theorem spot_none {w : World} {a : Addr} {v : Value} (h : w.cell? a = some v) : a.spot = none := by
  obtain ⟨g, off, spot⟩ := a
  unfold World.cell? at h
  simp only at h
  split at h
  · cases spot with
    | none => rfl
    | some s => simp at h
  · cases h
theorem int_of {fuel : Nat} {c : Value} {y : DataW H × List MemPlace} (h : DataW.trod enc Tryz.prog W 0 (fun _ => true) true fuel 3 [c] = some y) : ∃ n, c = .int .i64 n ∧ -9223372036854775808 ≤ n ∧ n ≤ 9223372036854775807 := by
  obtain ⟨n, e, e2, e3⟩ := DataW.trod_int Tryz.underlying3 h
  have e3' : -9223372036854775808 ≤ n ∧ n ≤ 9223372036854775807 := by simpa [Lit.wf, IntKind.min, IntKind.max, IntKind.signed, IntKind.bits] using e3
  exact ⟨n, by simpa using e, e3'⟩
theorem text_of {fuel : Nat} {c : Value} {y : DataW H × List MemPlace} (h : DataW.trod enc Tryz.prog W 0 (fun _ => true) true fuel 9 [c] = some y) : ∃ s : List UInt8, c = .string ⟨s.toArray⟩ ∧ s.length ≤ Rows.uptoBulk y.1 := by
  obtain ⟨s, e, e2, _⟩ := DataW.trod_string Tryz.underlying9 h
  have e' : c = .string s := by simpa using e
  refine ⟨s.data.toList, e'.trans (str_back s), ?_⟩
  rw [e2]
  simp only [Rows.uptoBulk]
  omega
theorem texts_of {fuel : Nat} {c : Value} {y : DataW H × List MemPlace} (h : DataW.trod enc Tryz.prog W 0 (fun _ => true) true fuel 31 [c] = some y) : ∃ A k ls, c = .slice A ls.length k ∧ StrsAt W A ls.length ls ∧ (∀ s ∈ ls, s.length ≤ Rows.uptoBulk y.1) ∧ ls.length ≤ Rows.uptoBulk y.1 := by
  have hc : ∃ A n k, c = .slice A n k := by
    rcases open_slice Tryz.underlying31 h with ⟨hcs, _⟩ | ⟨a, len, cap, m, n, D, Pl, hcs, _⟩
    · exact ⟨none, 0, 0, by simpa using hcs⟩
    · exact ⟨some a, len, cap, by simpa using hcs⟩
  obtain ⟨A, n, k, rfl⟩ := hc
  obtain ⟨ls, h1, _, _, h2, h3⟩ := strs_bulk (W := W) (A := A) (len := n) (cap := k) (d := y.1) (p := y.2) ⟨fuel, h⟩
  have hn : n = ls.length := h1.1
  subst hn
  exact ⟨A, k, ls, rfl, h1, fun s hs => Nat.le_trans (List.sublist_flatten_of_mem hs).length_le h2, h3⟩
set_option maxRecDepth 100000 in
theorem bools_of {fuel : Nat} {c : Value} {y : DataW H × List MemPlace} (h : DataW.trod enc Tryz.prog W 0 (fun _ => true) true fuel 46 [c] = some y) :
    ∃ A k bs, c = .slice A bs.length k ∧ BoolsAt W A bs.length bs := by
  have hc : Tryz.prog.cellsOf 4 = 1 := by kernel_rfl
  rcases open_slice1 Tryz.underlying46 hc h with ⟨hcs, hx⟩ | ⟨a, len, cap, m, n, V, D, Pl, hcs, _, hl, hm, hmm, hx, hcell⟩
  · have hcs : c = .slice none 0 0 := by simpa using hcs
    subst hcs
    exact ⟨none, 0, [], rfl, ⟨rfl, fun h => absurd h (by decide)⟩⟩
  · have hcs : c = .slice (some a) len cap := by simpa using hcs
    subst hcs
    simp only [if_true] at hmm
    subst hmm
    obtain ⟨B, hB⟩ := choose_lt (α := Bool) (p := fun i b => W.cell? (a.add i) = some (.bool b)) (fun i hi => by
      obtain ⟨b, h1, _⟩ := DataW.trod_bool Tryz.underlying4 (hcell i hi).2
      refine ⟨b, ?_⟩
      rw [(hcell i hi).1]
      simpa using h1)
    refine ⟨some a, m, (List.range len).map B, by simp, ⟨rfl, fun h0 => ?_⟩⟩
    have h0' : 0 < len := by simpa using h0
    have h00 := hB 0 (by omega)
    have ea : a.add 0 = a := by simp [Addr.add]
    rw [ea] at h00
    have hsp := spot_none h00
    obtain ⟨g, off, spot⟩ := a
    simp only at hsp
    subst hsp
    refine ⟨g, off, rfl, fun i hi => ?_⟩
    have hi' : i < len := by simpa using hi
    have := hB i (by omega)
    rw [add_off] at this
    simpa using this
theorem step_of {fuel : Nat} {cs : List Value} {y : DataW H × List MemPlace} (h : DataW.trod enc Tryz.prog W 0 (fun _ => true) true fuel 48 cs = some y) (hB : Rows.uptoBulk y.1 ≤ 1048576) : ∃ o : StepD, cs = stepL o ∧ OkS W o := by
  obtain ⟨y0, y1, y2, y3, y4, y5, n, hx, hl, g0, g1, g2, g3, g4, g5⟩ := trod_struct6 Tryz.underlying48 h
  have hc : Tryz.prog.cellsOf 48 = 6 := by kernel_rfl
  have hi : Tryz.prog.cellsOf 3 = 1 := by kernel_rfl
  have hs : Tryz.prog.cellsOf 9 = 1 := by kernel_rfl
  have hss : Tryz.prog.cellsOf 31 = 1 := by kernel_rfl
  have hbb : Tryz.prog.cellsOf 46 = 1 := by kernel_rfl
  rw [hc] at hl
  obtain ⟨v0, v1, v2, v3, v4, v5, rfl⟩ := list6 hl
  simp only [hi, hs, hss, hbb, List.drop_zero, List.drop_succ_cons, List.take_succ_cons, List.take_zero] at g0 g1 g2 g3 g4 g5
  obtain ⟨k, rfl, _⟩ := int_of g0
  obtain ⟨n1, rfl, hn1⟩ := int_of g1
  obtain ⟨t, rfl, ht⟩ := text_of g2
  obtain ⟨A1, c1, ts, rfl, hts, htl, htn⟩ := texts_of g3
  obtain ⟨A2, c2, ks, rfl, hks⟩ := bools_of g4
  obtain ⟨torn, rfl, _⟩ := int_of g5
  rw [hx] at hB
  simp only [Rows.uptoBulk, Rows.uptoBulkAll] at hB
  exact ⟨⟨k, n1, t, A1, c1, ts, A2, c2, ks, torn⟩, rfl, ⟨hn1, by show t.length ≤ _; omega, hts, fun p hp => by have := htl p hp; omega, by show ts.length ≤ _; omega, hks⟩⟩
/-- A slice of steps that came in. -/
theorem steps_of {fuel : Nat} {c : Value} {y : DataW H × List MemPlace} (h : DataW.trod enc Tryz.prog W 0 (fun _ => true) true fuel 22 [c] = some y) (hB : Rows.uptoBulk y.1 ≤ 1048576) :
    ∃ A n cap os, c = .slice A n cap ∧ StepsAt W A n os ∧ n ≤ 1048576 := by
  have hc : Tryz.prog.cellsOf 48 = 6 := by kernel_rfl
  rcases open_slice Tryz.underlying22 h with ⟨hcs, hx⟩ | ⟨a, len, cap, m, n', D, Pl, hcs, _, hlc, hm, hmm, hy, hcell⟩
  · have hcs : c = .slice none 0 0 := by simpa using hcs
    subst hcs
    exact ⟨none, 0, 0, [], rfl, ⟨rfl, fun h => absurd h (by decide), fun o ho => by cases ho⟩, by decide⟩
  · have hcs : c = .slice (some a) len cap := by simpa using hcs
    subst hcs
    simp only [if_true] at hmm
    subst hmm
    rw [hc] at hcell
    rw [hy] at hB
    simp only [Rows.uptoBulk] at hB
    have hlen := bulk_len (H := H) ((List.range len).map D)
    rw [List.length_map, List.length_range] at hlen
    obtain ⟨p, hp⟩ := choose_lt (α := StepD) (p := fun i q => i < len → (∀ k v, (stepL q)[k]? = some v → W.cell? ((a.add (i * 6)).add k) = some v) ∧ OkS W q) (fun i (hi : i < m) => by
      by_cases hil : i < len
      · obtain ⟨cs', h1, h2⟩ := hcell i hi
        obtain ⟨_, hlen, hcc⟩ := World.cells?_some h1
        have hbi := bulk_all (H := H) (List.mem_map.2 ⟨i, by simpa using hil, rfl⟩ : D i ∈ (List.range len).map D)
        obtain ⟨o, rfl, ho⟩ := step_of h2 (by show Rows.uptoBulk (D i) ≤ 1048576; omega)
        refine ⟨o, fun _ => ⟨fun k v hk => ?_, ho⟩⟩
        have hk6 : k < 6 := by have := (List.getElem?_eq_some_iff.1 hk).1; exact this
        rw [hcc k hk6]; exact hk
      · exact ⟨default, fun h => absurd h hil⟩)
    refine ⟨some a, len, m, (List.range len).map p, rfl, ⟨by simp, fun h0 => ?_, fun o ho => ?_⟩, by omega⟩
    · have h00 := (hp 0 (by omega) (by omega)).1 0 _ rfl
      rw [Nat.zero_mul, add_add] at h00
      have ea : a.add (0 + 0) = a := by simp [Addr.add]
      rw [ea] at h00
      have hsp := spot_none h00
      obtain ⟨g, off, spot⟩ := a
      simp only at hsp
      subst hsp
      have hg : g < W.heap.size := by
        unfold World.cell? at h00
        split at h00
        · rename_i c t f hg
          exact (Array.getElem?_eq_some_iff.1 hg).1
        · cases h00
      refine ⟨g, off, rfl, hg, fun j hj i v hv => ?_⟩
      have hj' : j < len := by simpa using hj
      have := (hp j (by omega) hj').1 i v (by simpa using hv)
      rw [add_off, add_off] at this
      exact this
    · obtain ⟨i, hi, rfl⟩ := List.mem_map.1 ho
      have hi' : i < len := by simpa using hi
      exact (hp i (by omega) hi').2
set_option maxRecDepth 100000 in
theorem steps_open {b0 : Nat} {v : Value} {d : DataW H} {q : List MemPlace} (hv : Value.okWide Tryz.prog W .any b0 22 v) (h : DataW.Trod enc Tryz.prog W 0 (fun _ => true) true 22 v d q) (hB : Rows.uptoBulk d ≤ 1048576) :
    ∃ A n cap os, v = .slice A n cap ∧ StepsAt W A n os ∧ n ≤ 1048576 := by
  obtain ⟨A, n, c, rfl⟩ := okWide_slice Tryz.underlying22 hv
  obtain ⟨fuel, hf⟩ := h
  exact steps_of hf hB
end
end Go.Proofs.YtcbepjepcabllaaGreatDoor
