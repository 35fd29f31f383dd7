/- shard.Open: its two results in cells; what it refuses at once. -/
import Derived.Test.YteadblkkbbhpjaaSnP
import Derived.Test.YteadblkkbbhpjaaHld
set_option linter.unusedVariables false
namespace Go.Proofs.Yteadblkkbbhpjaa
open Go Go.RowKit Go.Shelf
theorem load_str {w : World} {b : Nat} {v : Value} {t : TypeId} (h : BoxV w b v t) : (loadVar 9 ⟨b, 0, none⟩).run Try.prog w = .ok v w := by
  have hc := h.c
  go_simp
theorem load_err {w : World} {b : Nat} {v : Value} {t : TypeId} (h : BoxV w b v t) : (loadVar 24 ⟨b, 0, none⟩).run Try.prog w = .ok v w := by
  have hc := h.c
  go_simp
theorem results_two {fn : Func} {p q : Tmp} (h : fn.results = #[.cell p 9, .cell q 24]) {tmps : Array Value} {w : World} {a b : Nat} {v u : Value} (hp : tmps[p]?.getD undef = .pointer (some ⟨a, 0, none⟩)) (hq : tmps[q]?.getD undef = .pointer (some ⟨b, 0, none⟩))
    (ha : BoxV w a v 9) (hb : BoxV w b u 24) : (results fn tmps).run Try.prog w = .ok (.tuple #[v, u]) w := by
  have h1 := load_str ha
  have h2 := load_err hb
  simp only [results, h]
  simp [Sem.run_bind, Result.andThen, hp, hq, asAddr, h1, h2]
theorem BoxV.put {w : World} {b : Nat} {v : Value} {t : TypeId} (h : BoxV w b v t) (u : Value) : BoxV (w.setCell ⟨b, 0, none⟩ u) b u t := by
  unfold BoxV; rw [heap_setCell_any w b 0 _ _ _ _ h]; rfl
theorem BoxV.other {w : World} {b : Nat} {v : Value} {t : TypeId} (h : BoxV w b v t) {c : Nat} (hc : b ≠ c) (i : Nat) (u : Value) : BoxV (w.setCell ⟨c, i, none⟩ u) b v t :=
  (heap_setCell_other w ⟨c, i, none⟩ b u hc).trans h
theorem BoxV.fz {w : World} {b : Nat} {v : Value} {t : TypeId} (h : BoxV w b v t) : w.frozen? ⟨b, 0, none⟩ = false := frozen_of_row w b 0 _ _ h
/-- What both Opens answer, as shard says it. -/
def OpenPost (nm s : List UInt8) (w : World) (e : Ending) (w' : World) : Prop := ∃ t v x a, e = .returned (.tuple #[.string ⟨t.toArray⟩, v]) ∧ ErrIs w' v x a ∧ OpSays nm s t x a ∧ Q w w'
theorem ErrIs.set {w : World} {k : Nat} {v u x : Value} {c a : Int} {t : TypeId} (h : ErrIs w v c a) (hk : BoxV w k u t) : ErrIs (w.setCell ⟨k, 0, none⟩ x) v c a := by
  rcases h with h | ⟨h0, b, h1, h2⟩
  · exact .inl h
  · refine .inr ⟨h0, b, h1, ?_⟩
    have hne : b ≠ k := by
      rintro rfl
      unfold BoxV at hk; unfold FaultAt at h2
      rw [h2] at hk
      have := congrArg (fun o => match o with | some (.cells cs _ _) => cs.size | _ => 0) hk
      simp at this
    exact (heap_setCell_other w ⟨k, 0, none⟩ b x hne).trans h2
/-- The four boxes of Open: the name, the text, the results. -/
structure Fr (w0 : World) (N0 : Nat) (nm s : List UInt8) (r4 r5 : Value) (w : World) : Prop where
  n : BoxV w N0 (.string ⟨nm.toArray⟩) 9
  s : BoxV w (N0 + 1) (.string ⟨s.toArray⟩) 9
  t : BoxV w (N0 + 1 + 1) r4 9
  e : BoxV w (N0 + 1 + 1 + 1) r5 24
  q : Q w0 w
  sz : w0.heap.size = N0
theorem Fr.start (w : World) (nm s : List UInt8) (w1 : World)
    (hq : Q ((((w.alloc (.cells #[.string ⟨nm.toArray⟩] 9)).alloc (.cells #[.string ⟨s.toArray⟩] 9)).alloc (.cells #[.string ⟨#[]⟩] 9)).alloc (.cells #[.nilIface] 24)) w1) :
    Fr w w.heap.size nm s (.string ⟨#[]⟩) .nilIface w1 := by
  have h0 := BoxV.new w (.string ⟨nm.toArray⟩) 9
  generalize hA : w.alloc (.cells #[.string ⟨nm.toArray⟩] 9) = A at *
  have h1 := BoxV.new A (.string ⟨s.toArray⟩) 9
  have sA : A.heap.size = w.heap.size + 1 := by rw [← hA]; simp
  have qA : Q w A := by rw [← hA]; exact (Q.refl _).alloc _
  have qB : Q A (A.alloc (.cells #[.string ⟨s.toArray⟩] 9)) := (Q.refl _).alloc _
  have sB : (A.alloc (.cells #[.string ⟨s.toArray⟩] 9)).heap.size = w.heap.size + 1 + 1 := by simp [sA]
  generalize A.alloc (.cells #[.string ⟨s.toArray⟩] 9) = B at *
  have h2 := BoxV.new B (.string ⟨#[]⟩) 9
  have qC : Q B (B.alloc (.cells #[.string ⟨#[]⟩] 9)) := (Q.refl _).alloc _
  have sC : (B.alloc (.cells #[.string ⟨#[]⟩] 9)).heap.size = w.heap.size + 1 + 1 + 1 := by simp [sB]
  generalize B.alloc (.cells #[.string ⟨#[]⟩] 9) = C at *
  have h3 := BoxV.new C .nilIface 24
  have qD : Q C (C.alloc (.cells #[.nilIface] 24)) := (Q.refl _).alloc _
  generalize C.alloc (.cells #[.nilIface] 24) = D at *
  rw [sA] at h1; rw [sB] at h2; rw [sC] at h3
  exact ⟨((h0.q qB).q (qC.trans qD)).q hq, (h1.q (qC.trans qD)).q hq, (h2.q qD).q hq, h3.q hq, ((qA.trans qB).trans (qC.trans qD)).trans hq, rfl⟩
theorem Fr.go {w0 w w' : World} {N0 : Nat} {nm s : List UInt8} {r4 r5 : Value} (h : Fr w0 N0 nm s r4 r5 w) (hq : Q w w') : Fr w0 N0 nm s r4 r5 w' :=
  ⟨h.n.q hq, h.s.q hq, h.t.q hq, h.e.q hq, h.q.trans hq, h.sz⟩
/-- The two results, stored. -/
theorem Fr.fin {w0 w : World} {N0 : Nat} {nm s : List UInt8} {r4 r5 : Value} (h : Fr w0 N0 nm s r4 r5 w) {t : List UInt8} {v : Value} {x a : Int} (he : ErrIs w v x a) (ho : OpSays nm s t x a) :
    BoxV ((w.setCell ⟨N0 + 1 + 1, 0, none⟩ (.string ⟨t.toArray⟩)).setCell ⟨N0 + 1 + 1 + 1, 0, none⟩ v) (N0 + 1 + 1) (.string ⟨t.toArray⟩) 9 ∧
    BoxV ((w.setCell ⟨N0 + 1 + 1, 0, none⟩ (.string ⟨t.toArray⟩)).setCell ⟨N0 + 1 + 1 + 1, 0, none⟩ v) (N0 + 1 + 1 + 1) v 24 ∧
    OpenPost nm s w0 (.returned (.tuple #[.string ⟨t.toArray⟩, v])) ((w.setCell ⟨N0 + 1 + 1, 0, none⟩ (.string ⟨t.toArray⟩)).setCell ⟨N0 + 1 + 1 + 1, 0, none⟩ v) := by
  have h1 := h.t.put (.string ⟨t.toArray⟩)
  have h2 := h.e.other (c := N0 + 1 + 1) (by omega) 0 (.string ⟨t.toArray⟩)
  have hq1 : Q w0 (w.setCell ⟨N0 + 1 + 1, 0, none⟩ (.string ⟨t.toArray⟩)) := h.q.setNew (p := ⟨N0 + 1 + 1, 0, none⟩) (by have := h.sz; simp; omega) _
  have he1 := he.set (x := .string ⟨t.toArray⟩) h.t
  exact ⟨h1.other (by omega) 0 v, h2.put v, t, v, x, a, rfl, he1.set h2, ho, hq1.setNew (p := ⟨N0 + 1 + 1 + 1, 0, none⟩) (by have := h.sz; simp; omega) _⟩
set_option maxRecDepth 100000 in
set_option maxHeartbeats 4000000 in
theorem Open_a (nm s : List UInt8) (w : World) (hn : nm.length ≤ 140737488355328) (hs : s.length ≤ 140737488355328) (h1 : 220 < nm.length) :
    Calls Try.prog 18 #[.string ⟨nm.toArray⟩, .string ⟨s.toArray⟩] w (OpenPost nm s w) := by
  have g1 : decide (220 < (nm.length : Int)) = true := by simp; omega
  refine (callsIn_wide (n := 3)).1 ?_
  refine callsIn_of_wp_marks Try.func18 rfl trivial ?_ rfl
  simp only [Try.ntmps18, List.size_toArray, List.length_cons, List.length_nil, Nat.reduceAdd, Nat.reduceSub, Array.replicate_succ, Array.replicate_zero, List.push_toArray, List.append_toArray, List.nil_append, List.cons_append]
  refine wpIn_wide.2 ?_
  go_wp2_with fail
  refine (shfault_any 1 0 _).mono ?_
  rintro e w1 ⟨⟨b, rfl, hb⟩, hq⟩
  have hF := Fr.start w nm s w1 hq
  have he : ErrIs w1 (.iface 67 (.pointer (some ⟨b, 0, none⟩))) 1 0 := .inr ⟨by omega, b, rfl, hb⟩
  obtain ⟨f1, f2, f3⟩ := hF.fin (t := []) he (.inl ⟨h1, rfl, rfl, rfl⟩)
  have c4 := hF.t.c
  have c5 := hF.e.c
  have z4 := hF.t.fz
  have z5 := hF.e.fz
  clear hq hb
  go_wp2_with fail
  exact ⟨_, results_two rfl rfl rfl f1 f2, f3⟩
set_option maxRecDepth 100000 in
set_option maxHeartbeats 4000000 in
theorem Open_b (nm s : List UInt8) (w : World) (hn : nm.length ≤ 220) (h1 : s.length < 36) :
    Calls Try.prog 18 #[.string ⟨nm.toArray⟩, .string ⟨s.toArray⟩] w (OpenPost nm s w) := by
  have g1 : decide (220 < (nm.length : Int)) = false := by simp; omega
  have g2 : decide ((s.length : Int) < 36) = true := by simp; omega
  refine (callsIn_wide (n := 3)).1 ?_
  refine callsIn_of_wp_marks Try.func18 rfl trivial ?_ rfl
  simp only [Try.ntmps18, List.size_toArray, List.length_cons, List.length_nil, Nat.reduceAdd, Nat.reduceSub, Array.replicate_succ, Array.replicate_zero, List.push_toArray, List.append_toArray, List.nil_append, List.cons_append]
  refine wpIn_wide.2 ?_
  go_wp2_with fail
  refine (shfault_any 14 0 _).mono ?_
  rintro e w1 ⟨⟨b, rfl, hb⟩, hq⟩
  have hF := Fr.start w nm s w1 hq
  have he : ErrIs w1 (.iface 67 (.pointer (some ⟨b, 0, none⟩))) 14 0 := .inr ⟨by omega, b, rfl, hb⟩
  obtain ⟨f1, f2, f3⟩ := hF.fin (t := []) he (.inr (.inl ⟨by omega, fun h => by have := h.1; omega, rfl, rfl, rfl⟩))
  have c4 := hF.t.c
  have c5 := hF.e.c
  have z4 := hF.t.fz
  have z5 := hF.e.fz
  clear hq hb
  go_wp2_with fail
  exact ⟨_, results_two rfl rfl rfl f1 f2, f3⟩
end Go.Proofs.Yteadblkkbbhpjaa
