/- DigestPieces: sums of a text that is told in pieces. -/
import Derived.Test.YteadblkkbbhpjaaExm
import Derived.Test.YteadblkkbbhpjaaHsE
import Derived.Test.YteadblkkbbhpjaaStrs
set_option linter.unusedVariables false
namespace Go.Proofs.Yteadblkkbbhpjaa
open Go Go.RowKit
/-- Both sums of a text, in blocks of their own. -/
structure SumsAt (w : World) (g hl sl hs ss : Nat) (t : List UInt8) : Prop where
  row : w.heap[g]? = some (.cells #[.int .i64 (t.length : Nat), .pointer (some ⟨hl, 0, none⟩), .pointer (some ⟨hs, 0, none⟩)] 93 (0, 0))
  long : ToldAt w alg256 hl sl 8 t
  short : ToldAt w alg5 hs ss 4 t
  n1 : g ≠ hl ∧ g ≠ sl ∧ g ≠ hs ∧ g ≠ ss
  n2 : hl ≠ hs ∧ hl ≠ ss ∧ sl ≠ hs ∧ sl ≠ ss
theorem SumsAt.x {w w' : World} {g hl sl hs ss : Nat} {t : List UInt8} {S : List Nat} (h : SumsAt w g hl sl hs ss t) (hg : GX S w w') (h1 : g ∉ S ∧ hl ∉ S ∧ sl ∉ S ∧ hs ∉ S ∧ ss ∉ S) : SumsAt w' g hl sl hs ss t :=
  ⟨hg.heap h1.1 h.row, h.long.x hg h1.2.1 h1.2.2.1, h.short.x hg h1.2.2.2.1 h1.2.2.2.2, h.n1, h.n2⟩
theorem SumsAt.q {w w' : World} {g hl sl hs ss : Nat} {t : List UInt8} (h : SumsAt w g hl sl hs ss t) (hq : Q w w') : SumsAt w' g hl sl hs ss t := h.x (S := []) (GX.q hq) (by simp)
theorem SumsAt.c0 {w : World} {g hl sl hs ss : Nat} {t : List UInt8} (h : SumsAt w g hl sl hs ss t) : w.cell? ⟨g, 0, none⟩ = some (.int .i64 (t.length : Nat)) := by rw [cell_of_row _ _ _ _ _ _ h.row]; rfl
theorem SumsAt.c1 {w : World} {g hl sl hs ss : Nat} {t : List UInt8} (h : SumsAt w g hl sl hs ss t) : w.cell? ⟨g, 1, none⟩ = some (.pointer (some ⟨hl, 0, none⟩)) := by rw [cell_of_row _ _ _ _ _ _ h.row]; rfl
theorem SumsAt.c2 {w : World} {g hl sl hs ss : Nat} {t : List UInt8} (h : SumsAt w g hl sl hs ss t) : w.cell? ⟨g, 2, none⟩ = some (.pointer (some ⟨hs, 0, none⟩)) := by rw [cell_of_row _ _ _ _ _ _ h.row]; rfl
theorem SumsAt.f0 {w : World} {g hl sl hs ss : Nat} {t : List UInt8} (h : SumsAt w g hl sl hs ss t) : w.frozen? ⟨g, 0, none⟩ = false := frozen_of_row w g 0 _ _ h.row
def NewSPost (w : World) (e : Ending) (w' : World) : Prop :=
  ∃ g hl sl hs ss, e = .returned (.pointer (some ⟨g, 0, none⟩)) ∧ (w.heap.size ≤ g ∧ w.heap.size ≤ hl ∧ w.heap.size ≤ sl ∧ w.heap.size ≤ hs ∧ w.heap.size ≤ ss) ∧ SumsAt w' g hl sl hs ss [] ∧ Q w w'
theorem ToldAt.ltH {w : World} {A : Alg} {hb sb cap : Nat} {t : List UInt8} (h : ToldAt w A hb sb cap t) : hb < w.heap.size := ToldZ.ltH h
theorem ToldAt.ltS {w : World} {A : Alg} {hb sb cap : Nat} {t : List UInt8} (h : ToldAt w A hb sb cap t) : sb < w.heap.size := ToldZ.ltS h
set_option maxHeartbeats 1000000 in
theorem SNew_any (w : World) : Calls Try.prog 35 #[] w (NewSPost w) := by
  go_enter Try.func35, Try.ntmps35
  go_wp2_with fail
  with_reducible refine (new256_any _).mono ?_
  rintro e w1 ⟨hl, sl, rfl, h1, h2, hT, hq⟩
  have HT := Lib.hid hT
  have HQ := Lib.hid hq
  have l1 := ToldAt.ltH hT
  have l2 := ToldAt.ltS hT
  clear hT hq
  go_wp2_with fail
  with_reducible refine (new5_any _).mono ?_
  rintro e w2 ⟨hs, ss, rfl, h3, h4, hT5, hq5⟩
  have HT1 := Lib.hid (HT.out.x (S := []) (GX.q hq5) (by simp) (by simp))
  have HT5 := Lib.hid hT5
  have HQ5 := Lib.hid (HQ.out.trans hq5)
  have l3 := ToldAt.ltH hT5
  have l4 := ToldAt.ltS hT5
  have l5 := HQ.out.size
  have l6 := hq5.size
  clear hT5 hq5 HT HQ
  go_wp2_with fail
  go_ret
  refine ⟨w2.heap.size, hl, sl, hs, ss, rfl, ⟨by omega, h1, h2, by omega, by omega⟩, ⟨?_, ?_, ?_, by omega, by omega⟩, HQ5.out.alloc _⟩
  · rw [heap_alloc_new]; rfl
  · exact HT1.out.x (S := []) (GX.q ((Q.refl w2).alloc _)) (by simp) (by simp)
  · exact HT5.out.x (S := []) (GX.q ((Q.refl w2).alloc _)) (by simp) (by simp)
theorem SSize_any (g hl sl hs ss : Nat) (t : List UInt8) (w : World) (h : SumsAt w g hl sl hs ss t) :
    Calls Try.prog 39 #[.pointer (some ⟨g, 0, none⟩)] w fun e w' => e = .returned (.int .i64 (t.length : Nat)) ∧ w = w' := by
  have c0 := h.c0
  clear h
  go_enter Try.func39, Try.ntmps39
  go_wp2_with fail
  go_ret
  exact ⟨rfl, rfl⟩
theorem SSum256_any (g hl sl hs ss : Nat) (t : List UInt8) (w : World) (h : SumsAt w g hl sl hs ss t) :
    Calls Try.prog 37 #[.pointer (some ⟨g, 0, none⟩)] w fun e w' => e = .returned (.string ⟨(sha t).toArray⟩) ∧ Q w w' := by
  have c1 := h.c1
  have HT := Lib.hid h.long
  clear h
  go_enter Try.func37, Try.ntmps37
  go_wp2_with fail
  with_reducible refine (sum_any alg256 hl sl 8 _ _ HT.out).mono ?_
  rintro e w3 ⟨rfl, hq⟩
  go_wp2_with fail
  go_ret
  exact ⟨rfl, hq⟩
theorem SSum5_any (g hl sl hs ss : Nat) (t : List UInt8) (w : World) (h : SumsAt w g hl sl hs ss t) :
    Calls Try.prog 38 #[.pointer (some ⟨g, 0, none⟩)] w fun e w' => e = .returned (.string ⟨(md t).toArray⟩) ∧ Q w w' := by
  have c1 := h.c2
  have HT := Lib.hid h.short
  clear h
  go_enter Try.func38, Try.ntmps38
  go_wp2_with fail
  with_reducible refine (sum_any alg5 hs ss 4 _ _ HT.out).mono ?_
  rintro e w3 ⟨rfl, hq⟩
  go_wp2_with fail
  go_ret
  exact ⟨rfl, hq⟩
set_option maxHeartbeats 1000000 in
theorem SWrite_any (g hl sl hs ss : Nat) (t p : List UInt8) (w : World) (h : SumsAt w g hl sl hs ss t) (hp : t.length + p.length ≤ 9223372036854775807) :
    Calls Try.prog 36 #[.pointer (some ⟨g, 0, none⟩), .string ⟨p.toArray⟩] w fun e w' => e = .returned (.tuple #[]) ∧ SumsAt w' g hl sl hs ss (t ++ p) ∧ GX [g, hl, sl, hs, ss] w w' := by
  have c0 := h.c0
  have f0 := h.f0
  have c1 := h.c1
  have c2 := h.c2
  have H := Lib.hid h
  obtain ⟨m1, m2, m3, m4⟩ := h.n1
  obtain ⟨k1, k2, k3, k4⟩ := h.n2
  clear h
  have hg1 : GX [g] w (w.setCell ⟨g, 0, none⟩ (.int .i64 ((t.length : Int) + (p.length : Int)))) := (GX.refl _ w).set (by simp) _ _
  have hrow : (w.setCell ⟨g, 0, none⟩ (.int .i64 ((t.length : Int) + (p.length : Int)))).heap[g]? = some (.cells #[.int .i64 ((t.length : Int) + (p.length : Int)), .pointer (some ⟨hl, 0, none⟩), .pointer (some ⟨hs, 0, none⟩)] 93 (0, 0)) := by
    rw [heap_setCell_same w g 0 _ _ _ H.out.row]; rfl
  have HL := Lib.hid (H.out.long.x hg1 (by simp; omega) (by simp; omega))
  have HS := Lib.hid (H.out.short.x hg1 (by simp; omega) (by simp; omega))
  have HG := Lib.hid hg1
  have HR := Lib.hid hrow
  clear hg1 hrow
  go_enter Try.func36, Try.ntmps36
  go_wp2_with fail
  with_reducible refine (write_any alg256 hl sl 8 t p _ HL.out (by omega)).mono ?_
  rintro e w2 ⟨rfl, hT, hG2⟩
  have z2 : w2.cell? ⟨g, 2, none⟩ = some (.pointer (some ⟨hs, 0, none⟩)) := by
    rw [cell_of_row _ _ _ _ _ _ (hG2.heap (by simp; omega) HR.out)]; rfl
  have HR2 := Lib.hid (hG2.heap (k := g) (by simp; omega) HR.out)
  have HL2 := Lib.hid hT
  have HS2 := Lib.hid (HS.out.x hG2 (by simp; omega) (by simp; omega))
  have HG2 := Lib.hid ((HG.out.mono (S' := [g, hl, sl, hs, ss]) (by simp)).trans (hG2.mono (by simp)))
  clear hT hG2 c0 f0 c1 c2 HL HS HG HR
  go_wp2_with fail
  with_reducible refine (write_any alg5 hs ss 4 t p _ HS2.out (by omega)).mono ?_
  rintro e w3 ⟨rfl, hT, hG3⟩
  have hr3 := hG3.heap (k := g) (by simp; omega) HR2.out
  have hL3 := HL2.out.x hG3 (by simp; omega) (by simp; omega)
  have HF := Lib.hid (⟨by rw [List.length_append, Int.natCast_add]; exact hr3, hL3, hT, ⟨m1, m2, m3, m4⟩, ⟨k1, k2, k3, k4⟩⟩ : SumsAt w3 g hl sl hs ss (t ++ p))
  have HG3 := Lib.hid (HG2.out.trans (hG3.mono (by simp)))
  clear hr3 hL3 hT hG3
  go_wp2_with fail
  go_end0
  exact ⟨rfl, HF.out, HG3.out⟩
end Go.Proofs.Yteadblkkbbhpjaa
