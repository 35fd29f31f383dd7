/- Texts of this proof, laid into one: PaT, PaX, PbA, PaU. -/
import Derived.Test.YtbhgekhcpagkoaaDoorMh12
/- PartsPuts. -/
set_option linter.unusedVariables false
set_option linter.unusedSimpArgs false
namespace Go.Proofs.YtbhgekhcpagkoaaDoor
open Go Go.RowKit
def p0 : PartD := ⟨0, 0, 0, [], 0⟩
/-- What a put hands back: the upload, its parts. -/
def putU (b : Bool) (u : UpD) : UpD := if b then u else zU
def putQ (b : Bool) (ps : List PartD) (p : PartD) : List PartD := if b then putL ps p else []
def putE (b : Bool) : Int := if b then 0 else 1
theorem Put_all (u : UpD) (A : Option Addr) (n cap : Nat) (ps : List PartD) (p : PartD) (w : World) (h : PartsAt w A n ps) (hok : OkP ps) (hp : p.tag.length ≤ 140737488355328) (hcap : n ≤ cap ∧ cap ≤ 9223372036854775807) :
    Calls Tryd.prog 10 #[upV u (.slice A n cap), partV p] w fun e w' => (∃ v, e = .returned (.tuple #[upV (putU (rightB ps && mayB p) u) v, .int .i64 (putE (rightB ps && mayB p))]) ∧ OwnP w w' v (putQ (rightB ps && mayB p) ps p)) ∧ Q w w' := by
  refine (Put_any u A n cap ps p w h hok hp hcap).mono ?_
  rintro e w1 ⟨h1 | h1, hq⟩
  · obtain ⟨hb, v, he, ho⟩ := h1
    rw [hb]; exact ⟨⟨v, he, ho⟩, hq⟩
  · obtain ⟨hb, he⟩ := h1
    rw [hb]; exact ⟨⟨_, he, OwnP.nil _ _⟩, hq⟩
theorem RPut_all (u : UpD) (A : Option Addr) (n cap : Nat) (ps : List PartD) (p : PartD) (w : World) (h : PartsAt w A n ps) (hok : OkP ps) (hp : p.tag.length ≤ 140737488355328) (hn : n ≤ 9223372036854775807) :
    Calls Tryd.prog 15 #[upV u (.slice A n cap), partV p] w fun e w' => (∃ v, e = .returned (.tuple #[upV (putU (rightB ps && mayB p) u) v, .bool (rightB ps && mayB p)]) ∧ OwnP w w' v (putQ (rightB ps && mayB p) ps p)) ∧ Q w w' := by
  refine (RPut_any u A n cap ps p w h hok hp hn).mono ?_
  rintro e w1 ⟨h1 | h1, hq⟩
  · obtain ⟨hb, v, he, ho⟩ := h1
    rw [hb]; exact ⟨⟨v, he, ho⟩, hq⟩
  · obtain ⟨hb, he⟩ := h1
    rw [hb]; exact ⟨⟨_, he, OwnP.nil _ _⟩, hq⟩
theorem putQ_len (ps : List PartD) (p : PartD) : (putQ (rightB ps && mayB p) ps p).length ≤ 21 := by
  cases hb : (rightB ps && mayB p) with
  | false => simp [putQ]
  | true =>
    simp only [Bool.and_eq_true] at hb
    have := right_len hb.1
    simp only [putQ, if_true, putL, List.length_append, List.length_cons, List.length_take, List.length_drop]
    split <;> omega
theorem BoxU.g {w w' : World} {b : Nat} {u : UpD} {v : Value} {row : Option Nat} (h : BoxU w b u v) (hg : w.grownBy w' row) (hr : row ≠ some b) : BoxU w' b u v := by
  unfold BoxU at *
  rw [hg.block b (Array.getElem?_eq_some_iff.1 h).1 (fun e => hr e.symm)]
  exact h
theorem OwnP.sub {w0 w : World} {A : Option Addr} {m cap : Nat} {ps : List PartD} (h : OwnP w0 w (.slice A m cap) ps) (hm : m = ps.length) : PartsAt w A m ps := by
  obtain ⟨A', c', hv, _, _, hP, _⟩ := h.parts
  injection hv with e1 e2 e3
  subst e1
  rw [hm]; exact hP
/-- An upload's box, made and filled. -/
theorem BoxU.make (w : World) (u : UpD) (v : Value) : BoxU ((w.alloc (.cells (upL zU (.slice none 0 0)).toArray 26)).setRow w.heap.size (upL u v).toArray) w.heap.size u v ∧ Q w ((w.alloc (.cells (upL zU (.slice none 0 0)).toArray 26)).setRow w.heap.size (upL u v).toArray) :=
  ⟨setRow_heap _ _ _ _ _ _ (BoxU.new w zU (.slice none 0 0)), Q.below ((Q.refl _).alloc _) (below_setRow (Below.refl _ _) (Nat.le_refl _) _)⟩
/-- The upload and the part in their boxes. -/
theorem twoUP (w : World) (u : UpD) (v : Value) (p : PartD) : BoxU ((w.alloc (.cells (upL u v).toArray 26)).alloc (.cells (partL p).toArray 31)) w.heap.size u v ∧ BoxP ((w.alloc (.cells (upL u v).toArray 26)).alloc (.cells (partL p).toArray 31)) (w.heap.size + 1) p ∧
    Q w ((w.alloc (.cells (upL u v).toArray 26)).alloc (.cells (partL p).toArray 31)) := by
  have h0 := BoxU.new w u v
  have sA : (w.alloc (.cells (upL u v).toArray 26)).heap.size = w.heap.size + 1 := by simp
  have qA : Q w (w.alloc (.cells (upL u v).toArray 26)) := (Q.refl _).alloc _
  generalize w.alloc (.cells (upL u v).toArray 26) = A at *
  have h1 := BoxP.new A p
  have qB : Q A (A.alloc (.cells (partL p).toArray 31)) := (Q.refl _).alloc _
  rw [sA] at h1
  exact ⟨h0.q qB, h1, qA.trans qB⟩
/-- LawB, and the part in its box. -/
structure LawP (w0 : World) (N0 N2 G : Nat) (u : UpD) (A : Option Addr) (n cap : Nat) (ps : List PartD) (p : PartD) (w : World) : Prop where
  b : LawB w0 N0 N2 G u A n cap ps w
  bp : BoxP w (N0 + 1) p
theorem LawP.go {w0 w w' : World} {N0 N2 G : Nat} {u : UpD} {A : Option Addr} {n cap : Nat} {ps : List PartD} {p : PartD} (h : LawP w0 N0 N2 G u A n cap ps p w) (hq : Q w w') : LawP w0 N0 N2 G u A n cap ps p w' := ⟨h.b.go hq, h.bp.q hq⟩
set_option maxRecDepth 100000 in
set_option maxHeartbeats 8000000 in
theorem PPuts_any (u : UpD) (A : Option Addr) (n cap : Nat) (ps : List PartD) (p : PartD) (w : World) (h : PartsAt w A n ps) (hok : OkP ps) (hp : p.tag.length ≤ 140737488355328) (ht : Tab w) (hn : n ≤ 2932031007402) :
    Calls Tryd.prog 5 #[upV u (.slice A n cap), partV p] w fun e w' => e = .returned (.bool true) ∧ Q w w' := by
  have hn63 : n ≤ 9223372036854775807 := by omega
  have hcap : n ≤ n + 1 ∧ n + 1 ≤ 9223372036854775807 := by omega
  obtain ⟨hbu, hbp, hq1⟩ := twoUP w u (.slice A n cap) p
  obtain ⟨W1, hW1⟩ : ∃ W, (w.alloc (.cells (upL u (.slice A n cap)).toArray 26)).alloc (.cells (partL p).toArray 31) = W := ⟨_, rfl⟩
  obtain ⟨N0, hN0⟩ : ∃ N, w.heap.size = N := ⟨_, rfl⟩
  rw [hW1, hN0] at hbu hbp
  rw [hW1] at hq1
  have HRP := Lib.hid (fun w' h' => RPut_all u A n cap ps p w' h' hok hp hn63)
  have HPP := Lib.hid (fun G w' h' => Put_all u (some ⟨G, 0, none⟩) n (n + 1) ps p w' h' hok hp hcap)
  have hL := putQ_len ps p
  obtain ⟨b, hb⟩ : ∃ b, (rightB ps && mayB p) = b := ⟨_, rfl⟩
  rw [hb] at HRP HPP hL
  obtain ⟨L, hLdef⟩ : ∃ L, putQ b ps p = L := ⟨_, rfl⟩
  obtain ⟨u3, hu3⟩ : ∃ u3, putU b u = u3 := ⟨_, rfl⟩
  rw [hLdef] at hL
  rw [hLdef, hu3] at HRP HPP
  have HLL := Lib.hid hL
  clear hb hLdef hu3 hok hp hL
  obtain ⟨seq, bucket, key, type, owner, time⟩ := u
  obtain ⟨seq3, bucket3, key3, type3, owner3, time3⟩ := u3
  obtain ⟨num, size, time2, tag, blob⟩ := p
  have hW1b : (w.alloc (.cells #[.int .i64 seq, .string ⟨bucket.toArray⟩, .string ⟨key.toArray⟩, .string ⟨type.toArray⟩, .string ⟨owner.toArray⟩, .int .i64 time, .slice A n cap] 26)).alloc (.cells #[.int .i64 num, .int .i64 size, .int .i64 time2, .string ⟨tag.toArray⟩, .int .i64 blob] 31) = W1 := hW1
  have HP := Lib.hid h
  have HT := Lib.hid ht
  clear h ht hW1
  unfold upV upL partV partL
  simp only
  go_enter Tryd.func5, Tryd.ntmps5
  go_wp2_with fail
  clear hW1b hN0
  refine (examples_any _ (HT.out.q hq1)).mono ?_
  rintro e w2 ⟨rfl, hq2⟩
  have hbu := hbu.q hq2
  have hbp := hbp.q hq2
  have HQ2 := Lib.hid (hq1.trans hq2)
  have c6 := hbu.c6
  clear hq1 hq2
  go_wp2_with fail
  refine (copied_any A n cap ps _ (HP.out.q HQ2.out) hn).mono ?_
  rintro e w3 ⟨rfl, ho3, hq3⟩
  obtain ⟨G, hG⟩ : ∃ G, w2.heap.size = G := ⟨_, rfl⟩
  obtain ⟨N2, hN2⟩ : ∃ G, w3.heap.size = G := ⟨_, rfl⟩
  rw [hG] at ho3 ⊢
  have hL := LawB.make hbu (HP.out.q HQ2.out) (HT.out.q HQ2.out) HQ2.out hq3 ho3 hN2
  have hbu3 := hbu.q hq3
  have hbp3 := hbp.q hq3
  have hbn := BoxU.new w3 zU (.slice none 0 0)
  have hqn : Q w3 (w3.alloc (.cells (upL zU (.slice none 0 0)).toArray 26)) := (Q.refl _).alloc _
  rw [hN2] at hbn
  obtain ⟨W4, hW4⟩ : ∃ W, w3.alloc (.cells (upL zU (.slice none 0 0)).toArray 26) = W := ⟨_, rfl⟩
  rw [hW4] at hL hbn hqn
  have hW4b : w3.alloc (.cells #[.int .i64 0, .string ⟨#[]⟩, .string ⟨#[]⟩, .string ⟨#[]⟩, .string ⟨#[]⟩, .int .i64 0, .slice none 0 0] 26) = W4 := hW4
  have hLL := Lib.hid hL
  clear hG ho3 c6 hL hq3 hW4 hbu hbp
  go_upto_region 3 with (fail)
  go_step
  refine wpList_load_row rfl 26 (.tmp 2) rfl N0 (by rfl) 26 (upL ⟨seq, bucket, key, type, owner, time⟩ (.slice A n cap)).toArray (0, 0) _ hbu3 Tryd.underlying26 rfl infoU ?_
  simp only [Act.put, List.setIfInBounds_toArray, List.set_cons_succ, List.set_cons_zero]
  have hstd : BoxU (W4.setRow N2 (upL ⟨seq, bucket, key, type, owner, time⟩ (.slice A n cap)).toArray) N2 ⟨seq, bucket, key, type, owner, time⟩ (.slice A n cap) := setRow_heap W4 _ _ _ _ _ hbn
  have hq5 : Q w3 (W4.setRow N2 (upL ⟨seq, bucket, key, type, owner, time⟩ (.slice A n cap)).toArray) := hqn.below (below_setRow (Below.refl _ _) (by omega) _)
  have hf6 := hstd.fz 6
  have hc6 := hstd.c6
  have hbu5 := (hbu3.q hq5).c6
  have hbp5 := hbp3.q hq5
  go_upto_region 4 with (refine wpList_store_row rfl 26 _ _ rfl N2 (upL ⟨seq, bucket, key, type, owner, time⟩ (.slice A n cap)).toArray (by rfl) (by rfl) 26 _ hbn infoU rfl (upL_one _ _ rfl) ?_)
  obtain ⟨W5, hW5⟩ : ∃ W, W4.setRow N2 (upL ⟨seq, bucket, key, type, owner, time⟩ (.slice A n cap)).toArray = W := ⟨_, rfl⟩
  rw [hW5] at hLL hf6 hc6 hbu5 hbp5 hq5 ⊢
  have hnn : (n : Int) ≤ (n : Int) + 1 := by omega
  have hq6 : Q w3 (W5.setCell ⟨N2, 6, none⟩ (.slice (some ⟨G, 0, none⟩) n (n + 1))) := hq5.setNew (p := ⟨N2, 6, none⟩) (by simp; omega) _
  have hbp6 := hbp3.q hq6
  clear hstd hW5 hbn hN2 hW4b hq5 hqn hbu3 hbp5 hq6 hbp3
  go_upto_region 5 with (fail)
  obtain ⟨W6, hW6⟩ : ∃ W, W5.setCell ⟨N2, 6, none⟩ (.slice (some ⟨G, 0, none⟩) n (n + 1)) = W := ⟨_, rfl⟩
  rw [hW6] at hLL hbp6 ⊢
  have HL6 := Lib.hid (LawP.mk hLL.out hbp6)
  clear hW6 hf6 hc6 hbu5 hbp6 hLL
  go_step
  refine wpList_load_row rfl 26 (.tmp 2) rfl N0 (by rfl) 26 (upL ⟨seq, bucket, key, type, owner, time⟩ (.slice A n cap)).toArray (0, 0) _ HL6.out.b.bu Tryd.underlying26 rfl infoU ?_
  simp only [Act.put, List.setIfInBounds_toArray, List.set_cons_succ, List.set_cons_zero]
  refine wpList_load_row rfl 31 (.tmp 3) rfl (N0 + 1) (by rfl) 31 (partL ⟨num, size, time2, tag, blob⟩).toArray (0, 0) _ HL6.out.bp Tryd.underlying31 rfl infoP ?_
  simp only [Act.put, List.setIfInBounds_toArray, List.set_cons_succ, List.set_cons_zero]
  have hRp : Calls Tryd.prog 15 #[.agg (upL ⟨seq, bucket, key, type, owner, time⟩ (.slice A n cap)).toArray, .agg (partL ⟨num, size, time2, tag, blob⟩).toArray] W6 _ := HRP.out W6 HL6.out.b.p
  clear HRP
  go_wp2_with fail
  refine hRp.mono ?_
  rintro e w7 ⟨⟨v7, rfl, ho7⟩, hq7⟩
  clear hRp
  obtain ⟨A7, c7, hv7, hl7, hc7, hP7, hown7⟩ := ho7.parts
  subst hv7
  obtain ⟨m, hm⟩ : ∃ m, m = L.length := ⟨_, rfl⟩
  rw [← hm] at ho7 ⊢
  have HM := Lib.hid hm
  clear hl7 hc7 hP7 hown7 hm
  obtain ⟨hb8, hq8⟩ := BoxU.make w7 ⟨seq3, bucket3, key3, type3, owner3, time3⟩ (.slice A7 m c7)
  have hbn := BoxU.new w7 zU (.slice none 0 0)
  obtain ⟨N8, hN8⟩ : ∃ G, w7.heap.size = G := ⟨_, rfl⟩
  rw [hN8] at hb8 hq8 hbn
  obtain ⟨W8, hW8⟩ : ∃ W, w7.alloc (.cells (upL zU (.slice none 0 0)).toArray 26) = W := ⟨_, rfl⟩
  rw [hW8] at hb8 hq8 hbn
  have hW8b : w7.alloc (.cells #[.int .i64 0, .string ⟨#[]⟩, .string ⟨#[]⟩, .string ⟨#[]⟩, .string ⟨#[]⟩, .int .i64 0, .slice none 0 0] 26) = W8 := hW8
  have HL9 := Lib.hid (HL6.out.go (hq7.trans hq8))
  have HO9 := Lib.hid (ho7.q hq8)
  have HQ9 := Lib.hid (hq7.trans hq8)
  clear hW8 hq7 hq8 ho7
  unfold upV
  go_upto_region 6 with (refine wpList_store_row rfl 26 _ _ rfl N8 (upL ⟨seq3, bucket3, key3, type3, owner3, time3⟩ (.slice A7 m c7)).toArray (by rfl) (by rfl) 26 _ hbn infoU rfl (upL_one _ _ rfl) ?_)
  obtain ⟨W9, hW9⟩ : ∃ W, W8.setRow N8 (upL ⟨seq3, bucket3, key3, type3, owner3, time3⟩ (.slice A7 m c7)).toArray = W := ⟨_, rfl⟩
  rw [hW9] at hb8 HL9 HO9 HQ9 ⊢
  have HB9 := Lib.hid hb8
  clear hW9 hbn hN8 hW8b hb8
  go_step
  refine wpList_load_row rfl 26 (.tmp 7) rfl N2 (by rfl) 26 (upL ⟨seq, bucket, key, type, owner, time⟩ (.slice (some ⟨G, 0, none⟩) n (n + 1))).toArray (0, 0) _ HL9.out.b.by' Tryd.underlying26 rfl infoU ?_
  simp only [Act.put, List.setIfInBounds_toArray, List.set_cons_succ, List.set_cons_zero]
  refine wpList_load_row rfl 31 (.tmp 3) rfl (N0 + 1) (by rfl) 31 (partL ⟨num, size, time2, tag, blob⟩).toArray (0, 0) _ HL9.out.bp Tryd.underlying31 rfl infoP ?_
  simp only [Act.put, List.setIfInBounds_toArray, List.set_cons_succ, List.set_cons_zero]
  have hPp : Calls Tryd.prog 10 #[.agg (upL ⟨seq, bucket, key, type, owner, time⟩ (.slice (some ⟨G, 0, none⟩) n (n + 1))).toArray, .agg (partL ⟨num, size, time2, tag, blob⟩).toArray] W9 _ := HPP.out G W9 HL9.out.b.y
  clear HPP
  go_wp2_with fail
  refine hPp.mono ?_
  rintro e w10 ⟨⟨v10, rfl, ho10⟩, hq10⟩
  clear hPp
  obtain ⟨A10, c10, hv10, hl10, hc10, hP10, hown10⟩ := ho10.parts
  subst hv10
  rw [← HM.out] at ho10 ⊢
  clear hl10 hc10 hP10 hown10
  have ho10 := ho10.base HQ9.out.size
  obtain ⟨hb11, hq11⟩ := BoxU.make w10 ⟨seq3, bucket3, key3, type3, owner3, time3⟩ (.slice A10 m c10)
  have hbn := BoxU.new w10 zU (.slice none 0 0)
  have HN := Lib.hid (fun g hg => (ho10.block hg).2 : ∀ g, (Value.slice A10 m c10).ownBlock = some g → g < w10.heap.size)
  obtain ⟨N10, hN10⟩ : ∃ G, w10.heap.size = G := ⟨_, rfl⟩
  rw [hN10] at hb11 hq11 hbn HN
  obtain ⟨W11, hW11⟩ : ∃ W, w10.alloc (.cells (upL zU (.slice none 0 0)).toArray 26) = W := ⟨_, rfl⟩
  rw [hW11] at hb11 hq11 hbn
  have hW11b : w10.alloc (.cells #[.int .i64 0, .string ⟨#[]⟩, .string ⟨#[]⟩, .string ⟨#[]⟩, .string ⟨#[]⟩, .int .i64 0, .slice none 0 0] 26) = W11 := hW11
  have HL12 := Lib.hid (HL9.out.go (hq10.trans hq11))
  have HO12 := Lib.hid (ho10.q hq11)
  have HR12 := Lib.hid (HO9.out.q (hq10.trans hq11))
  have HB12 := Lib.hid (HB9.out.q (hq10.trans hq11))
  have HQ12 := Lib.hid (HQ9.out.trans (hq10.trans hq11))
  have HQB := Lib.hid (hq10.trans hq11)
  clear hW11 HL9 hq10 hq11 ho10 HO9 HB9 HQ9
  unfold upV
  go_upto_region 7 with (refine wpList_store_row rfl 26 _ _ rfl N10 (upL ⟨seq3, bucket3, key3, type3, owner3, time3⟩ (.slice A10 m c10)).toArray (by rfl) (by rfl) 26 _ hbn infoU rfl (upL_one _ _ rfl) ?_)
  obtain ⟨W12, hW12⟩ : ∃ W, W11.setRow N10 (upL ⟨seq3, bucket3, key3, type3, owner3, time3⟩ (.slice A10 m c10)).toArray = W := ⟨_, rfl⟩
  rw [hW12] at hb11 HL12 HO12 HR12 HB12 HQ12 HQB ⊢
  have HC12 := Lib.hid hb11
  clear hW12 hbn hN10 hW11b hb11
  go_step
  refine wpList_load_row rfl 26 (.tmp 10) rfl N10 (by rfl) 26 (upL ⟨seq3, bucket3, key3, type3, owner3, time3⟩ (.slice A10 m c10)).toArray (0, 0) _ HC12.out Tryd.underlying26 rfl infoU ?_
  simp only [Act.put, List.setIfInBounds_toArray, List.set_cons_succ, List.set_cons_zero]
  refine wpList_load_row rfl 26 (.tmp 8) rfl N8 (by rfl) 26 (upL ⟨seq3, bucket3, key3, type3, owner3, time3⟩ (.slice A7 m c7)).toArray (0, 0) _ HB12.out Tryd.underlying26 rfl infoU ?_
  simp only [Act.put, List.setIfInBounds_toArray, List.set_cons_succ, List.set_cons_zero]
  have hmb : m ≤ 9223372036854775807 := by have := HM.out; have := HLL.out; omega
  have hSame : Calls Tryd.prog 11 #[.agg (upL ⟨seq3, bucket3, key3, type3, owner3, time3⟩ (.slice A10 m c10)).toArray, .agg (upL ⟨seq3, bucket3, key3, type3, owner3, time3⟩ (.slice A7 m c7)).toArray] W12 _ := SameUpload_any ⟨seq3, bucket3, key3, type3, owner3, time3⟩ A10 A7 m c10 c7 L W12 (HO12.out.sub HM.out) (HR12.out.sub HM.out) (by have := HM.out; have := HLL.out; omega)
  go_wp2_with fail
  refine hSame.mono ?_
  rintro e w13 ⟨rfl, hq13⟩
  clear hSame
  have HL13 := Lib.hid (HL12.out.go hq13)
  have HO13 := Lib.hid (HO12.out.q hq13)
  have HQ13 := Lib.hid (HQ12.out.trans hq13)
  have HC13 := Lib.hid (HC12.out.q hq13)
  clear HL12 HO12 HQ12 HC12 HB12 HR12 hq13 HL13 HQB
  go_wp2_with fail
  go_loopw [13] (fun i wr => ∃ k : Nat, k ≤ m ∧ i = .int .i64 (k : Int) ∧ Hid (OwnP W6 wr (.slice A10 m c10) (lkP p0 L k)) ∧ Hid (BoxU wr N10 ⟨seq3, bucket3, key3, type3, owner3, time3⟩ (.slice A10 m c10)) ∧ Hid (Q W6 wr)) (fun i _ => m - (intOf i).toNat)
  case atStart => exact ⟨0, by omega, rfl, HO13.out, HC13.out, HQ13.out⟩
  case round =>
    clear HO13 HC13 HQ13
    obtain ⟨k, hk, rfl, HO, HC, HQ⟩ := hrel
    have c6 := HC.out.c6
    by_cases hlt : k < m
    · have g1 : decide (k < m) = true := by simpa using hlt
      have hkl : k < L.length := by rw [← HM.out]; exact hlt
      obtain ⟨g', hg', hgs, hth, ho9, hg9⟩ := HO.out.setP k hlt p0
      subst hg'
      rw [lkP_set _ _ _ hkl] at ho9
      have HO9 := Lib.hid ho9
      have HC9 := Lib.hid (HC.out.g hg9 (fun e => by have := HN.out g' rfl; cases e; omega))
      have HQ9 := Lib.hid (Below.grown HQ.out hg9 HQ.out.size (fun b hb => by cases hb; exact hgs))
      clear ho9 hg9 hgs
      have hkm : (k : Int) < (m : Int) := by omega
      go_upto_region 11 with (fail)
      iterate 16 go_step
      refine wpList_store_mid rfl 31 (.tmp 52) (.tmp 51) rfl g' (k * 5) (partL p0).toArray (by rfl) (by rfl) hth infoP (partL_one _) ?_
      clear hth c6
      go_wp2_with fail
      go_roundw
      case rel => exact ⟨k + 1, hlt, by go_num, HO9.out, HC9.out, HQ9.out⟩
      case measure => simp [intOf]; omega
    · have g1 : decide (k < m) = false := by simpa using hlt
      have hLr := HL6.out.b.go HQ.out
      have hb6 := hLr.bu.c6
      clear HO HC
      go_wp2_with fail
      refine (still_any (some ⟨G, 0, none⟩) A n (n + 1) cap ps wr hLr.x hLr.p hn).mono ?_
      rintro e w9 ⟨rfl, hq9⟩
      have hfin := hLr.q.trans hq9
      clear hq9 c6 hb6
      cases b with
      | false =>
        rw [show putE false = 1 from rfl]
        go_wp2_with fail
        go_ret
        exact ⟨rfl, hfin⟩
      | true =>
        rw [show putE true = 0 from rfl]
        go_wp2_with fail
        go_ret
        exact ⟨rfl, hfin⟩
end Go.Proofs.YtbhgekhcpagkoaaDoor
/- numbered: parts that may be, of raw ones. -/
set_option linter.unusedVariables false
set_option linter.unusedSimpArgs false
namespace Go.Proofs.YtbhgekhcpagkoaaDoor
open Go Go.RowKit
def numP (i : Nat) (q : PartD) : PartD := ⟨(i : Int) + 1, if 16 ≤ q.size ∧ q.size ≤ 8000 then q.size else 16, q.time, tagE, q.blob⟩
def numK (raw : List PartD) (k : Nat) : List PartD := (List.range k).map fun i => numP i (gP raw i)
def numL (raw : List PartD) : List PartD := numK raw (min raw.length 20)
theorem numK_len (raw : List PartD) (k : Nat) : (numK raw k).length = k := by simp [numK]
theorem numK_succ (raw : List PartD) (k : Nat) : numK raw (k + 1) = numK raw k ++ [numP k (gP raw k)] := by simp [numK, List.range_succ]
theorem numK_at (raw : List PartD) (k i : Nat) (h : i < k) : gP (numK raw k) i = numP i (gP raw i) := by
  rw [gP_eq _ i (by rw [numK_len]; exact h)]
  simp [numK]
theorem BoxP.fz {w : World} {b : Nat} {p : PartD} (h : BoxP w b p) (i : Nat) : w.frozen? ⟨b, i, none⟩ = false := frozen_of_row w b i _ _ h
theorem BoxP.set1 {w : World} {b : Nat} {p : PartD} (h : BoxP w b p) (x : Int) : BoxP (w.setCell ⟨b, 1, none⟩ (.int .i64 x)) b { p with size := x } := by
  unfold BoxP; rw [heap_setCell_any w b 1 _ _ _ _ h]; rfl
theorem BoxP.set2 {w : World} {b : Nat} {p : PartD} (h : BoxP w b p) (x : Int) : BoxP (w.setCell ⟨b, 2, none⟩ (.int .i64 x)) b { p with time := x } := by
  unfold BoxP; rw [heap_setCell_any w b 2 _ _ _ _ h]; rfl
theorem BoxP.set4 {w : World} {b : Nat} {p : PartD} (h : BoxP w b p) (x : Int) : BoxP (w.setCell ⟨b, 4, none⟩ (.int .i64 x)) b { p with blob := x } := by
  unfold BoxP; rw [heap_setCell_any w b 4 _ _ _ _ h]; rfl
theorem BoxP.make (w : World) (p : PartD) : BoxP ((w.alloc (.cells (partL p0).toArray 31)).setRow w.heap.size (partL p).toArray) w.heap.size p ∧ Q w ((w.alloc (.cells (partL p0).toArray 31)).setRow w.heap.size (partL p).toArray) :=
  ⟨setRow_heap _ _ _ _ _ _ (BoxP.new w p0), Q.below ((Q.refl _).alloc _) (below_setRow (Below.refl _ _) (Nat.le_refl _) _)⟩
/-- A box of the call's own, in a world that has grown. -/
structure RoundP (w0 : World) (N : Nat) (p : PartD) (w : World) : Prop where
  b : BoxP w N p
  n : w0.heap.size ≤ N
  q : Q w0 w
theorem RoundP.go {w0 w w' : World} {N : Nat} {p : PartD} (h : RoundP w0 N p w) (hq : Q w w') : RoundP w0 N p w' := ⟨h.b.q hq, h.n, h.q.trans hq⟩
theorem RoundP.set1 {w0 w : World} {N : Nat} {p : PartD} (h : RoundP w0 N p w) (x : Int) : RoundP w0 N { p with size := x } (w.setCell ⟨N, 1, none⟩ (.int .i64 x)) := ⟨h.b.set1 x, h.n, h.q.setNew (p := ⟨N, 1, none⟩) h.n _⟩
theorem RoundP.set2 {w0 w : World} {N : Nat} {p : PartD} (h : RoundP w0 N p w) (x : Int) : RoundP w0 N { p with time := x } (w.setCell ⟨N, 2, none⟩ (.int .i64 x)) := ⟨h.b.set2 x, h.n, h.q.setNew (p := ⟨N, 2, none⟩) h.n _⟩
theorem RoundP.set4 {w0 w : World} {N : Nat} {p : PartD} (h : RoundP w0 N p w) (x : Int) : RoundP w0 N { p with blob := x } (w.setCell ⟨N, 4, none⟩ (.int .i64 x)) := ⟨h.b.set4 x, h.n, h.q.setNew (p := ⟨N, 4, none⟩) h.n _⟩
set_option maxRecDepth 100000 in
set_option maxHeartbeats 8000000 in
theorem numbered_any (A : Option Addr) (n cap : Nat) (ps : List PartD) (w : World) (h : PartsAt w A n ps) (hn : n ≤ 2932031007402) :
    Calls Tryd.prog 9 #[.slice A n cap] w fun e w' => (∃ v, e = .returned v ∧ OwnP w w' v (numL ps)) ∧ Q w w' := by
  have hnb : n ≤ 9223372036854775807 := by omega
  have HH := Lib.hid h
  have HN := Lib.hid h.1
  clear h
  go_enter Tryd.func9, Tryd.ntmps9
  go_wp2_with fail
  go_loopw [3, 4] (fun v i wr => ∃ k : Nat, k ≤ n ∧ k ≤ 20 ∧ i = .int .i64 (k : Int) ∧ Hid (OwnP w wr v (numK ps k)) ∧ Hid (Q w wr)) (fun _ i _ => n - (intOf i).toNat)
  case atStart => exact ⟨0, by omega, by omega, rfl, OwnP.nil _ _, Q.refl _⟩
  case round =>
    obtain ⟨k, hk, hk20, rfl, HO, HQ⟩ := hrel
    by_cases hlt : k < n
    · have g1 : decide (k < n) = true := by simpa using hlt
      by_cases hl20 : k < 20
      · have g2 : decide ((k : Int) < 20) = true := by simp; omega
        go_wp2_with fail
        refine (of_any ((k : Int) + 1) 16 wr).mono ?_
        rintro e w3 ⟨rfl, hq3⟩
        obtain ⟨hb5, hq5⟩ := BoxP.make w3 (exP ((k : Int) + 1) 16)
        have hbn := BoxP.new w3 p0
        obtain ⟨N5, hN5⟩ : ∃ G, w3.heap.size = G := ⟨_, rfl⟩
        rw [hN5] at hb5 hq5 hbn
        obtain ⟨W4, hW4⟩ : ∃ W, w3.alloc (.cells (partL p0).toArray 31) = W := ⟨_, rfl⟩
        rw [hW4] at hb5 hq5 hbn
        have hW4b : w3.alloc (.cells #[.int .i64 0, .int .i64 0, .int .i64 0, .string ⟨#[]⟩, .int .i64 0] 31) = W4 := hW4
        have hnw : wr.heap.size ≤ N5 := by rw [← hN5]; exact hq3.size
        have hR5 : RoundP wr N5 (exP ((k : Int) + 1) 16) (W4.setRow N5 (partL (exP ((k : Int) + 1) 16)).toArray) := ⟨hb5, hnw, hq3.trans hq5⟩
        clear hW4 hq3 hq5 hb5 hnw
        unfold partV
        go_upto_region 6 with (refine wpList_store_row rfl 31 _ _ rfl N5 (partL (exP ((k : Int) + 1) 16)).toArray (by rfl) (by rfl) 31 _ hbn infoP rfl (partL_one _) ?_)
        obtain ⟨W5, hW5⟩ : ∃ W, W4.setRow N5 (partL (exP ((k : Int) + 1) 16)).toArray = W := ⟨_, rfl⟩
        rw [hW5] at hR5 ⊢
        clear hW5 hbn hN5 hW4b
        unfold exP at hR5
        obtain ⟨g, off, rfl, c0, c1, c2, c3, c4⟩ := (HH.out.q (HQ.out.trans hR5.q)).at hlt
        clear c0 c2 c3 c4
        by_cases hs : 16 ≤ (gP ps k).size ∧ (gP ps k).size ≤ 8000
        · have HNP : Hid ((⟨(k : Int) + 1, (gP ps k).size, (gP ps k).time, tagE, (gP ps k).blob⟩ : PartD) = numP k (gP ps k)) := Lib.hid (by unfold numP; rw [if_pos hs])
          have s1 : decide (16 ≤ (gP ps k).size) = true := decide_eq_true hs.1
          have s2 : decide ((gP ps k).size ≤ 8000) = true := decide_eq_true hs.2
          have f1 := hR5.b.fz 1
          have e1 := hR5.b.c1
          clear hs
          go_upto_region 8 with (fail)
          have hR5 := hR5.set1 (gP ps k).size
          obtain ⟨W9, hW9⟩ : ∃ W, W5.setCell ⟨N5, 1, none⟩ (.int .i64 (gP ps k).size) = W := ⟨_, rfl⟩
          rw [hW9] at hR5 ⊢
          clear c1 f1 e1 hW9 s1 s2
          have dd := hR5.b
          obtain ⟨_, _, hA2, d0, d1, d2, d3, d4⟩ := (HH.out.q (HQ.out.trans hR5.q)).at hlt
          cases hA2
          have f4 := dd.fz 4
          have e4 := dd.c4
          clear dd d0 d1 d3
          go_upto_region 9 with (fail)
          have hR6 := hR5.set4 (gP ps k).blob
          obtain ⟨W6, hW6⟩ : ∃ W, W9.setCell ⟨N5, 4, none⟩ (.int .i64 (gP ps k).blob) = W := ⟨_, rfl⟩
          rw [hW6] at hR6 ⊢
          clear d4 d2 f4 e4 hW6
          obtain ⟨_, _, hA2, d0, d1, d2, d3, d4⟩ := (HH.out.q (HQ.out.trans hR6.q)).at hlt
          cases hA2
          have f2 := hR6.b.fz 2
          have e2 := hR6.b.c2
          clear d0 d1 d3 d4
          go_upto_region 10 with (fail)
          have hR7 := hR6.set2 (gP ps k).time
          obtain ⟨W7, hW7⟩ : ∃ W, W6.setCell ⟨N5, 2, none⟩ (.int .i64 (gP ps k).time) = W := ⟨_, rfl⟩
          rw [hW7] at hR7 ⊢
          clear d2 f2 e2 hW7 hR5 hR6
          simp only at hR7
          have HR := Lib.hid hR7
          have HO7 := Lib.hid (HO.out.q hR7.q)
          have HQ7 := Lib.hid (HQ.out.trans hR7.q)
          clear hR7 HO HQ
          go_step
          go_step
          go_step
          go_step
          refine wpList_load_row rfl 31 (.tmp 5) rfl N5 (by rfl) 31 (partL ⟨(k : Int) + 1, (gP ps k).size, (gP ps k).time, tagE, (gP ps k).blob⟩).toArray (0, 0) _ HR.out.b Tryd.underlying31 rfl infoP ?_
          simp only [Act.put, List.setIfInBounds_toArray, List.set_cons_succ, List.set_cons_zero]
          simp only [partL]
          go_wp2_with (at_builtin; refine wpList_append_p rfl (.tmp 51) (.tmp 53) rfl w W7 _ (numK ps k) ⟨(k : Int) + 1, (gP ps k).size, (gP ps k).time, tagE, (gP ps k).blob⟩ (by rfl) HO7.out (by rfl) HQ7.out (by rw [numK_len]; omega) ?_; intro v5 w5 ho5 hq5 _; have HO5 := Lib.hid ho5; have HQ5 := Lib.hid hq5; clear ho5 hq5)
          go_roundw
          case rel => exact ⟨k + 1, hlt, hl20, by go_num, by rw [numK_succ]; exact (by rw [← HNP.out]; exact HO5.out), HQ5.out⟩
          case measure => simp [intOf]; omega
        · have HNP : Hid ((⟨(k : Int) + 1, 16, (gP ps k).time, tagE, (gP ps k).blob⟩ : PartD) = numP k (gP ps k)) := Lib.hid (by unfold numP; rw [if_neg hs])
          by_cases h16 : 16 ≤ (gP ps k).size
          · have s1 : decide (16 ≤ (gP ps k).size) = true := decide_eq_true h16
            have s2 : decide ((gP ps k).size ≤ 8000) = false := decide_eq_false (by omega)
            clear hs h16
            go_upto_region 8 with (fail)
            clear c1 s1 s2
            have dd := hR5.b
            obtain ⟨_, _, hA2, d0, d1, d2, d3, d4⟩ := (HH.out.q (HQ.out.trans hR5.q)).at hlt
            cases hA2
            have f4 := dd.fz 4
            have e4 := dd.c4
            clear dd d0 d1 d3
            go_upto_region 9 with (fail)
            have hR6 := hR5.set4 (gP ps k).blob
            obtain ⟨W6, hW6⟩ : ∃ W, W5.setCell ⟨N5, 4, none⟩ (.int .i64 (gP ps k).blob) = W := ⟨_, rfl⟩
            rw [hW6] at hR6 ⊢
            clear d4 d2 f4 e4 hW6
            obtain ⟨_, _, hA2, d0, d1, d2, d3, d4⟩ := (HH.out.q (HQ.out.trans hR6.q)).at hlt
            cases hA2
            have f2 := hR6.b.fz 2
            have e2 := hR6.b.c2
            clear d0 d1 d3 d4
            go_upto_region 10 with (fail)
            have hR7 := hR6.set2 (gP ps k).time
            obtain ⟨W7, hW7⟩ : ∃ W, W6.setCell ⟨N5, 2, none⟩ (.int .i64 (gP ps k).time) = W := ⟨_, rfl⟩
            rw [hW7] at hR7 ⊢
            clear d2 f2 e2 hW7 hR5 hR6
            simp only at hR7
            have HR := Lib.hid hR7
            have HO7 := Lib.hid (HO.out.q hR7.q)
            have HQ7 := Lib.hid (HQ.out.trans hR7.q)
            clear hR7 HO HQ
            go_step
            go_step
            go_step
            go_step
            refine wpList_load_row rfl 31 (.tmp 5) rfl N5 (by rfl) 31 (partL ⟨(k : Int) + 1, 16, (gP ps k).time, tagE, (gP ps k).blob⟩).toArray (0, 0) _ HR.out.b Tryd.underlying31 rfl infoP ?_
            simp only [Act.put, List.setIfInBounds_toArray, List.set_cons_succ, List.set_cons_zero]
            simp only [partL]
            go_wp2_with (at_builtin; refine wpList_append_p rfl (.tmp 51) (.tmp 53) rfl w W7 _ (numK ps k) ⟨(k : Int) + 1, 16, (gP ps k).time, tagE, (gP ps k).blob⟩ (by rfl) HO7.out (by rfl) HQ7.out (by rw [numK_len]; omega) ?_; intro v5 w5 ho5 hq5 _; have HO5 := Lib.hid ho5; have HQ5 := Lib.hid hq5; clear ho5 hq5)
            go_roundw
            case rel => exact ⟨k + 1, hlt, hl20, by go_num, by rw [numK_succ]; exact (by rw [← HNP.out]; exact HO5.out), HQ5.out⟩
            case measure => simp [intOf]; omega
          · have s1 : decide (16 ≤ (gP ps k).size) = false := decide_eq_false h16
            clear hs h16
            go_upto_region 8 with (fail)
            clear c1 s1
            have dd := hR5.b
            obtain ⟨_, _, hA2, d0, d1, d2, d3, d4⟩ := (HH.out.q (HQ.out.trans hR5.q)).at hlt
            cases hA2
            have f4 := dd.fz 4
            have e4 := dd.c4
            clear dd d0 d1 d3
            go_upto_region 9 with (fail)
            have hR6 := hR5.set4 (gP ps k).blob
            obtain ⟨W6, hW6⟩ : ∃ W, W5.setCell ⟨N5, 4, none⟩ (.int .i64 (gP ps k).blob) = W := ⟨_, rfl⟩
            rw [hW6] at hR6 ⊢
            clear d4 d2 f4 e4 hW6
            obtain ⟨_, _, hA2, d0, d1, d2, d3, d4⟩ := (HH.out.q (HQ.out.trans hR6.q)).at hlt
            cases hA2
            have f2 := hR6.b.fz 2
            have e2 := hR6.b.c2
            clear d0 d1 d3 d4
            go_upto_region 10 with (fail)
            have hR7 := hR6.set2 (gP ps k).time
            obtain ⟨W7, hW7⟩ : ∃ W, W6.setCell ⟨N5, 2, none⟩ (.int .i64 (gP ps k).time) = W := ⟨_, rfl⟩
            rw [hW7] at hR7 ⊢
            clear d2 f2 e2 hW7 hR5 hR6
            simp only at hR7
            have HR := Lib.hid hR7
            have HO7 := Lib.hid (HO.out.q hR7.q)
            have HQ7 := Lib.hid (HQ.out.trans hR7.q)
            clear hR7 HO HQ
            go_step
            go_step
            go_step
            go_step
            refine wpList_load_row rfl 31 (.tmp 5) rfl N5 (by rfl) 31 (partL ⟨(k : Int) + 1, 16, (gP ps k).time, tagE, (gP ps k).blob⟩).toArray (0, 0) _ HR.out.b Tryd.underlying31 rfl infoP ?_
            simp only [Act.put, List.setIfInBounds_toArray, List.set_cons_succ, List.set_cons_zero]
            simp only [partL]
            go_wp2_with (at_builtin; refine wpList_append_p rfl (.tmp 51) (.tmp 53) rfl w W7 _ (numK ps k) ⟨(k : Int) + 1, 16, (gP ps k).time, tagE, (gP ps k).blob⟩ (by rfl) HO7.out (by rfl) HQ7.out (by rw [numK_len]; omega) ?_; intro v5 w5 ho5 hq5 _; have HO5 := Lib.hid ho5; have HQ5 := Lib.hid hq5; clear ho5 hq5)
            go_roundw
            case rel => exact ⟨k + 1, hlt, hl20, by go_num, by rw [numK_succ]; exact (by rw [← HNP.out]; exact HO5.out), HQ5.out⟩
            case measure => simp [intOf]; omega
      · have g2 : decide ((k : Int) < 20) = false := by simp; omega
        have HF : Hid (numK ps k = numL ps) := (by unfold numL; congr 1; have := HN.out; omega)
        clear hl20
        go_wp2_with fail
        go_ret
        exact ⟨⟨_, rfl, by rw [← HF.out]; exact HO.out⟩, HQ.out⟩
    · have g1 : decide (k < n) = false := by simpa using hlt
      have HF : Hid (numK ps k = numL ps) := (by unfold numL; congr 1; have := HN.out; omega)
      go_wp2_with fail
      go_ret
      exact ⟨⟨_, rfl, by rw [← HF.out]; exact HO.out⟩, HQ.out⟩
end Go.Proofs.YtbhgekhcpagkoaaDoor
/- Parts chosen of numbered ones: plain. -/
set_option linter.unusedVariables false
set_option linter.unusedSimpArgs false
namespace Go.Proofs.YtbhgekhcpagkoaaDoor
open Go Go.RowKit
/-- Of the first k parts those that S says, in order. -/
def selK (S : Nat → Bool) (L : List PartD) (k : Nat) : List PartD := ((List.range k).filter S).map (gP L)
theorem selK_yes {S : Nat → Bool} {L : List PartD} {k : Nat} (h : S k = true) : selK S L (k + 1) = selK S L k ++ [gP L k] := by simp [selK, List.range_succ, List.filter_append, h]
theorem selK_no {S : Nat → Bool} {L : List PartD} {k : Nat} (h : S k = false) : selK S L (k + 1) = selK S L k := by simp [selK, List.range_succ, List.filter_append, h]
theorem selK_len (S : Nat → Bool) (L : List PartD) (k : Nat) : (selK S L k).length ≤ k := by
  have := List.length_filter_le S (List.range k)
  simp only [selK, List.length_map]; simpa using this
theorem selK_mem {S : Nat → Bool} {L : List PartD} {k : Nat} {p : PartD} (h : p ∈ selK S L k) : ∃ i, i < k ∧ S i = true ∧ p = gP L i := by
  obtain ⟨i, hi, rfl⟩ := List.mem_map.1 h
  obtain ⟨h1, h2⟩ := List.mem_filter.1 hi
  exact ⟨i, List.mem_range.1 h1, h2, rfl⟩
structure NumOk (L : List PartD) : Prop where
  len : L.length ≤ 20
  num : ∀ i, i < L.length → (gP L i).num = (i : Int) + 1
  tag : ∀ i, i < L.length → (gP L i).tag = tagE
  size : ∀ i, i < L.length → 16 ≤ (gP L i).size ∧ (gP L i).size ≤ 8000
theorem numL_ok (raw : List PartD) : NumOk (numL raw) := by
  have hl : (numL raw).length = min raw.length 20 := numK_len _ _
  refine ⟨by omega, fun i hi => ?_, fun i hi => ?_, fun i hi => ?_⟩
  · unfold numL; rw [numK_at _ _ _ (by omega)]; rfl
  · unfold numL; rw [numK_at _ _ _ (by omega)]; rfl
  · unfold numL; rw [numK_at _ _ _ (by omega)]
    unfold numP; simp only; split <;> omega
section
variable {L : List PartD} (h : NumOk L)
include h
theorem NumOk.may {i : Nat} (hi : i < L.length) : mayB (gP L i) = true := by
  unfold mayB
  have h1 := h.num i hi
  have h2 := h.size i hi
  have h3 := h.len
  rw [h.tag i hi, ex_sum]
  simp; omega
theorem NumOk.rise {S : Nat → Bool} {k : Nat} (hk : k ≤ L.length) : riseB (selK S L k) = true := by
  have hp : (selK S L k).Pairwise (fun p q => p.num < q.num) := by
    unfold selK
    rw [List.pairwise_map]
    refine List.Pairwise.imp_of_mem ?_ (List.Pairwise.filter S (List.pairwise_lt_range (n := k)))
    intro a b ha hb hab
    have ha' := List.mem_range.1 (List.mem_filter.1 ha).1
    have hb' := List.mem_range.1 (List.mem_filter.1 hb).1
    rw [h.num a (by omega), h.num b (by omega)]; omega
  exact riseB_true fun j hj => by
    rw [gP_eq _ j (by omega), gP_eq _ (j + 1) hj]
    exact List.pairwise_iff_getElem.1 hp j (j + 1) (by omega) hj (by omega)
theorem NumOk.right {S : Nat → Bool} {k : Nat} (hk : k ≤ L.length) : rightB (selK S L k) = true := by
  unfold rightB
  rw [h.rise hk, Bool.true_and, List.all_eq_true]
  intro p hp
  obtain ⟨i, hi, _, rfl⟩ := selK_mem hp
  exact h.may (by omega)
omit h in
theorem selK_all (L : List PartD) : selK (fun _ => true) L L.length = L := by
  unfold selK
  rw [List.filter_eq_self.2 (fun _ _ => rfl)]
  refine List.ext_getElem (by simp) fun i h1 h2 => ?_
  simp only [List.getElem_map, List.getElem_range]
  exact gP_eq L i h2
theorem NumOk.find {i : Nat} (hi : i < L.length) : findP L (gP L i) = some (gP L i) := by
  unfold findP
  rw [List.find?_eq_some_iff_getElem]
  refine ⟨by simp [sameP], i, hi, (gP_eq L i hi).symm, fun j hj => ?_⟩
  rw [← gP_eq L j (by omega)]
  have h1 := h.num i hi
  have h2 := h.num j (by omega)
  have : ((gP L j).num == (gP L i).num) = false := by rw [h1, h2]; simp; omega
  simp [sameP, this]
theorem NumOk.pick {S : Nat → Bool} {k : Nat} (hk : k ≤ L.length) : pickL L (selK S L k) = selK S L k := by
  unfold pickL
  have : ∀ l : List PartD, (∀ p ∈ l, findP L p = some p) → l.filterMap (findP L) = l := by
    intro l
    induction l with
    | nil => intro _; rfl
    | cons a r ih => intro hl; rw [List.filterMap_cons, hl a (by simp), ih fun p hp => hl p (by simp [hp])]
  refine this _ fun p hp => ?_
  obtain ⟨i, hi, _, rfl⟩ := selK_mem hp
  exact h.find (by omega)
theorem NumOk.comp0 {S : Nat → Bool} {k : Nat} (hk : k ≤ L.length) (h0 : (selK S L k).length = 0) : compE L (selK S L k) = 89 := by
  unfold compE
  have hr : rightB L = true := by have := h.right (S := fun _ => true) (k := L.length) (Nat.le_refl _); rwa [selK_all] at this
  rw [hr, if_neg (by simp), if_pos (by omega)]
theorem NumOk.comp {S : Nat → Bool} {k : Nat} (hk : k ≤ L.length) (h0 : (selK S L k).length ≠ 0) : compE L (selK S L k) = 0 := by
  unfold compE
  have hr : rightB L = true := by have := h.right (S := fun _ => true) (k := L.length) (Nat.le_refl _); rwa [selK_all] at this
  have hl := selK_len S L k
  have h20 := h.len
  have hh : hasB L (selK S L k) = true := by
    unfold hasB
    rw [List.all_eq_true]
    intro p hp
    obtain ⟨i, hi, _, rfl⟩ := selK_mem hp
    rw [h.find (by omega)]; rfl
  have hsm : smallB (selK S L k) = false := by
    unfold smallB
    rw [List.any_eq_false]
    intro j hj
    have hj' := List.mem_range.1 hj
    have hm : gP (selK S L k) j ∈ selK S L k := by rw [gP_eq _ j (by omega)]; exact List.getElem_mem _
    obtain ⟨i, hi, _, he⟩ := selK_mem hm
    have := h.size i (by omega)
    rw [he]; simp; omega
  rw [hr, h.rise hk, hh, h.pick hk, hsm, if_neg (by simp), if_neg (by omega), if_neg (by simp), if_neg (by simp), if_neg (by simp)]
theorem NumOk.okp {S : Nat → Bool} {k : Nat} (hk : k ≤ L.length) : OkP (selK S L k) := by
  refine ex_ok _ fun p hp => ?_
  obtain ⟨i, hi, _, rfl⟩ := selK_mem hp
  exact h.tag i (by omega)
theorem NumOk.ok : OkP L := by have := h.okp (S := fun _ => true) (k := L.length) (Nat.le_refl _); rwa [selK_all] at this
theorem NumOk.sizes {S : Nat → Bool} (k : Nat) : k ≤ L.length → 0 ≤ sizeS (selK S L k) ∧ sizeS (selK S L k) ≤ 8000 * (k : Int) := by
  induction k with
  | zero => intro _; simp [selK, sizeS]
  | succ k ih =>
    intro hk
    have h1 := ih (by omega)
    have h2 := h.size k (by omega)
    cases e : S k with
    | true =>
      have : sizeS (selK S L (k + 1)) = sizeS (selK S L k) + (gP L k).size := by rw [selK_yes e]; simp [sizeS]
      rw [this]; omega
    | false => rw [selK_no e]; omega
theorem NumOk.etag {S : Nat → Bool} {k : Nat} (hk : k ≤ L.length) (h0 : (selK S L k).length ≠ 0) : etagB (selK S L k) = true := by
  have := etag_of (ps := L) (l := selK S L k) (by have := h.right (S := fun _ => true) (k := L.length) (Nat.le_refl _); rwa [selK_all] at this) (by rw [h.pick hk]; omega)
  rwa [h.pick hk] at this
end
theorem sizeS_app (a : List PartD) (p : PartD) : sizeS (a ++ [p]) = sizeS a + p.size := by simp [sizeS]
theorem dec_pos (n : Nat) : 1 ≤ (Lib.decDigits n).length := by
  rw [Lib.decDigits]; split <;> simp
theorem etag_shape (ps : List PartD) (hn : ps.length ≤ 20) : 34 ≤ (etagL ps).length ∧ (etagL ps).length ≤ 60 ∧ gB (etagL ps) 32 = 45 := by
  have h32 : (hexL (md (tagsL ps))).length = 32 := by rw [hexL_length, md_len]
  have h1 := dec_pos ps.length
  have h2 := dec_len ps.length (by omega)
  unfold etagL
  refine ⟨by simp only [List.length_append, h32, List.length_cons, List.length_nil]; omega, by simp only [List.length_append, h32, List.length_cons, List.length_nil]; omega, ?_⟩
  unfold gB
  rw [List.getD_eq_getElem?_getD, List.append_assoc, List.getElem?_append_right (by omega), h32]
  rfl
end Go.Proofs.YtbhgekhcpagkoaaDoor
/- PartsCompletes. -/
set_option linter.unusedVariables false
set_option linter.unusedSimpArgs false
namespace Go.Proofs.YtbhgekhcpagkoaaDoor
open Go Go.RowKit
/-- What a completing hands back: the version, its blobs. -/
def compU (ty : List UInt8) (ps l : List PartD) (now : Int) : VerD := if compE ps l = 0 then compV ty (pickL ps l) now else zV
def compZ (ps l : List PartD) : List Int := if compE ps l = 0 then (pickL ps l).map (·.blob) else []
theorem CompPost.all {ty : List UInt8} {ps l : List PartD} {now : Int} {w w' : World} {e : Ending} (h : CompPost ty ps l now w e w') :
    (∃ v, e = .returned (.tuple #[verV (compU ty ps l now) v, .int .i64 (compE ps l)]) ∧ OwnI w w' v (compZ ps l)) ∧ Q w w' := by
  obtain ⟨h1 | h1, hq⟩ := h
  · obtain ⟨hb, v, he, ho⟩ := h1
    refine ⟨⟨v, ?_, ?_⟩, hq⟩
    · rw [he]; unfold compU; rw [if_pos hb, hb]
    · unfold compZ; rw [if_pos hb]; exact ho
  · obtain ⟨hb, he⟩ := h1
    refine ⟨⟨.slice none 0 0, ?_, ?_⟩, hq⟩
    · rw [he]; unfold compU; rw [if_neg hb]
    · unfold compZ; rw [if_neg hb]; exact OwnI.nil _ _
theorem compZ_len (ps l : List PartD) : (compZ ps l).length ≤ 20 := by
  unfold compZ
  by_cases hb : compE ps l = 0
  · rw [if_pos hb, List.length_map]
    have h1 : (pickL ps l).length ≤ l.length := List.length_filterMap_le _ _
    have h2 : l.length ≤ 20 := by
      unfold compE at hb
      by_cases h3 : rightB ps = false
      · rw [if_pos h3] at hb; cases hb
      · rw [if_neg h3] at hb
        by_cases h4 : l.length < 1 ∨ 20 < l.length
        · rw [if_pos h4] at hb; cases hb
        · omega
    omega
  · rw [if_neg hb]; simp
/-- What an ETag tells. -/
def etagS (l : List PartD) : List UInt8 := if etagB l then etagL l else []
theorem ETagPost.allE {ps : List PartD} {w w' : World} {e : Ending} (h : ETagPost ps (.int .i64 0) (.int .i64 1) w e w') : e = .returned (.tuple #[.string ⟨(etagS ps).toArray⟩, .int .i64 (putE (etagB ps))]) ∧ Q w w' := by
  obtain ⟨h1 | h1, hq⟩ := h
  · exact ⟨by rw [h1.2]; unfold etagS; rw [h1.1]; rfl, hq⟩
  · exact ⟨by rw [h1.2]; unfold etagS; rw [h1.1]; rfl, hq⟩
theorem ETagPost.allB {ps : List PartD} {w w' : World} {e : Ending} (h : ETagPost ps (.bool true) (.bool false) w e w') : e = .returned (.tuple #[.string ⟨(etagS ps).toArray⟩, .bool (etagB ps)]) ∧ Q w w' := by
  obtain ⟨h1 | h1, hq⟩ := h
  · exact ⟨by rw [h1.2]; unfold etagS; rw [h1.1]; rfl, hq⟩
  · exact ⟨by rw [h1.2]; unfold etagS; rw [h1.1]; rfl, hq⟩
/-- A version's box, made and filled. -/
theorem BoxV.make (w : World) (u : VerD) (v : Value) : BoxV ((w.alloc (.cells (verL zV (.slice none 0 0)).toArray 37)).setRow w.heap.size (verL u v).toArray) w.heap.size u v ∧ Q w ((w.alloc (.cells (verL zV (.slice none 0 0)).toArray 37)).setRow w.heap.size (verL u v).toArray) :=
  ⟨setRow_heap _ _ _ _ _ _ (BoxV.new w zV (.slice none 0 0)), Q.below ((Q.refl _).alloc _) (below_setRow (Below.refl _ _) (Nat.le_refl _) _)⟩
theorem OwnI.sub {w0 w : World} {A : Option Addr} {m cap : Nat} {zs : List Int} (h : OwnI w0 w (.slice A m cap) zs) (hm : m = zs.length) : NumsAt w A m zs := by
  obtain ⟨A', c', hv, _, _, hP⟩ := h.slice
  injection hv with e1 e2 e3
  subst e1
  rw [hm]; exact hP
/-- A version's row written leaves the numbers. -/
theorem OwnI.row {w0 w : World} {v : Value} {zs : List Int} {b : Nat} {u : VerD} {x : Value} (h : OwnI w0 w v zs) (hb : BoxV w b u x) (u' : VerD) (x' : Value) : OwnI w0 (w.setRow b (verL u' x').toArray) v zs := by
  refine h.g (row := some b) ⟨rfl, rfl, rfl, by simp [World.setRow], fun k _ hk => setRow_other _ _ k _ (fun e => hk (by rw [e]))⟩ (fun k hk e => ?_)
  cases e
  rcases h.2 with ⟨rfl, _⟩ | ⟨g, cap, cur, rfl, h1, h2, _⟩
  · cases hk
  · have : g = b := by simpa [Value.ownBlock] using hk
    subst this
    unfold BoxV at hb
    rw [hb] at h2
    cases h2
/-- LawB, and the parts asked for, and their copy. -/
structure LawC (w0 : World) (N0 N2 G Z : Nat) (u : UpD) (A B : Option Addr) (n cap m : Nat) (ps l : List PartD) (w : World) : Prop where
  b : LawB w0 N0 N2 G u A n cap ps w
  hl : PartsAt w B m l
  z : PartsAt w (some ⟨Z, 0, none⟩) (m + 1) (l ++ [tailP])
theorem LawC.go {w0 w w' : World} {N0 N2 G Z : Nat} {u : UpD} {A B : Option Addr} {n cap m : Nat} {ps l : List PartD} (h : LawC w0 N0 N2 G Z u A B n cap m ps l w) (hq : Q w w') : LawC w0 N0 N2 G Z u A B n cap m ps l w' := ⟨h.b.go hq, h.hl.q hq, h.z.q hq⟩
theorem LawC.y {w0 w : World} {N0 N2 G Z : Nat} {u : UpD} {A B : Option Addr} {n cap m : Nat} {ps l : List PartD} (h : LawC w0 N0 N2 G Z u A B n cap m ps l w) : PartsAt w (some ⟨Z, 0, none⟩) m l := by
  have := h.z.take m (by omega)
  have e : (l ++ [tailP]).take m = l := by rw [h.hl.1]; simp
  rwa [e] at this
set_option maxRecDepth 100000 in
set_option maxHeartbeats 8000000 in
theorem PCompletes_any (u : UpD) (A B : Option Addr) (n cap m cap2 : Nat) (ps l : List PartD) (now : Int) (w : World) (h : PartsAt w A n ps) (hl : PartsAt w B m l) (hok : OkP ps) (hokl : OkP l) (ht : Tab w) (hn : n ≤ 2932031007402) (hm : m ≤ 2932031007402) :
    Calls Tryd.prog 6 #[upV u (.slice A n cap), .slice B m cap2, .int .i64 now] w fun e w' => e = .returned (.bool true) ∧ Q w w' := by
  have hn63 : n ≤ 9223372036854775807 := by omega
  have hm63 : m ≤ 9223372036854775807 := by omega
  have hmE : m ≤ 4398046511104 := by omega
  have hcap : n ≤ n + 1 ∧ n + 1 ≤ 9223372036854775807 := by omega
  have HRC := Lib.hid (fun w' h' hl' => (RComplete_any u A B n cap m cap2 ps l now w' h' hl' hok hn63 hm63).mono fun e w2 hc => CompPost.all hc)
  have HPC := Lib.hid (fun G Z w' h' hl' ht' => (Complete_any u (some ⟨G, 0, none⟩) (some ⟨Z, 0, none⟩) n (n + 1) m (m + 1) ps l now w' h' hl' hok ht' hn63 hm63 hcap).mono fun e w2 hc => CompPost.all hc)
  have HRE := Lib.hid (fun w' hl' => (RETag_any B m cap2 l w' hl' hokl hmE).mono fun e w2 hc => hc.allB)
  have HPE := Lib.hid (fun Z w' hl' ht' => (ETag_any (some ⟨Z, 0, none⟩) m (m + 1) l w' hl' hokl ht' hmE).mono fun e w2 hc => hc.allE)
  have hL := compZ_len ps l
  obtain ⟨ver, hver⟩ : ∃ v, compU u.type ps l now = v := ⟨_, rfl⟩
  obtain ⟨L, hLdef⟩ : ∃ L, compZ ps l = L := ⟨_, rfl⟩
  obtain ⟨ce, hce⟩ : ∃ L, compE ps l = L := ⟨_, rfl⟩
  obtain ⟨et, het⟩ : ∃ L, etagS l = L := ⟨_, rfl⟩
  obtain ⟨b, hb⟩ : ∃ L, etagB l = L := ⟨_, rfl⟩
  rw [hLdef] at hL
  rw [hver, hLdef, hce] at HRC HPC
  rw [het, hb] at HRE HPE
  have HLn := Lib.hid hL
  clear hver hLdef hce het hb hL hok hokl hmE hcap
  obtain ⟨sq, nl, mk, tg, ty, sz, tm⟩ := ver
  have hbu := BoxU.new w u (.slice A n cap)
  have hq1 : Q w (w.alloc (.cells (upL u (.slice A n cap)).toArray 26)) := (Q.refl _).alloc _
  obtain ⟨W1, hW1⟩ : ∃ W, w.alloc (.cells (upL u (.slice A n cap)).toArray 26) = W := ⟨_, rfl⟩
  obtain ⟨N0, hN0⟩ : ∃ N, w.heap.size = N := ⟨_, rfl⟩
  rw [hW1, hN0] at hbu
  rw [hW1] at hq1
  obtain ⟨seq, bucket, key, type, owner, time⟩ := u
  have hW1b : w.alloc (.cells #[.int .i64 seq, .string ⟨bucket.toArray⟩, .string ⟨key.toArray⟩, .string ⟨type.toArray⟩, .string ⟨owner.toArray⟩, .int .i64 time, .slice A n cap] 26) = W1 := hW1
  have HP := Lib.hid h
  have HB := Lib.hid hl
  have HT := Lib.hid ht
  clear h hl ht hW1
  unfold upV upL
  simp only
  go_enter Tryd.func6, Tryd.ntmps6
  go_wp2_with fail
  clear hW1b hN0
  refine (examples_any _ (HT.out.q hq1)).mono ?_
  rintro e w2 ⟨rfl, hq2⟩
  have hbu := hbu.q hq2
  have HQ2 := Lib.hid (hq1.trans hq2)
  have c6 := hbu.c6
  clear hq1 hq2
  go_wp2_with fail
  refine (copied_any A n cap ps _ (HP.out.q HQ2.out) hn).mono ?_
  rintro e w3 ⟨rfl, ho3, hq3⟩
  obtain ⟨G, hG⟩ : ∃ G, w2.heap.size = G := ⟨_, rfl⟩
  rw [hG] at ho3 ⊢
  clear c6
  go_wp2_with fail
  refine (copied_any B m cap2 l _ (HB.out.q (HQ2.out.trans hq3)) hm).mono ?_
  rintro e w4 ⟨rfl, ho4, hq4⟩
  obtain ⟨Z, hZ⟩ : ∃ G, w3.heap.size = G := ⟨_, rfl⟩
  obtain ⟨N2, hN2⟩ : ∃ G, w4.heap.size = G := ⟨_, rfl⟩
  rw [hZ] at ho4 ⊢
  have hL := LawB.make hbu (HP.out.q HQ2.out) (HT.out.q HQ2.out) HQ2.out (hq3.trans hq4) (ho3.q hq4) hN2
  have hbu3 := (hbu.q hq3).q hq4
  have hbn := BoxU.new w4 zU (.slice none 0 0)
  have hqn : Q w4 (w4.alloc (.cells (upL zU (.slice none 0 0)).toArray 26)) := (Q.refl _).alloc _
  rw [hN2] at hbn
  obtain ⟨W4, hW4⟩ : ∃ W, w4.alloc (.cells (upL zU (.slice none 0 0)).toArray 26) = W := ⟨_, rfl⟩
  rw [hW4] at hL hbn hqn
  have hW4b : w4.alloc (.cells #[.int .i64 0, .string ⟨#[]⟩, .string ⟨#[]⟩, .string ⟨#[]⟩, .string ⟨#[]⟩, .int .i64 0, .slice none 0 0] 26) = W4 := hW4
  have hlen1 : m + 1 = (l ++ [tailP]).length := by rw [List.length_append, ← HB.out.1]; rfl
  have hLz := ho4.sub hlen1
  have hLb := (HB.out.q (HQ2.out.trans hq3)).q hq4
  have hLL := Lib.hid hL
  clear hG hZ ho3 ho4 hL hq3 hq4 hW4 hbu hlen1
  go_upto_region 4 with (fail)
  go_step
  refine wpList_load_row rfl 26 (.tmp 3) rfl N0 (by rfl) 26 (upL ⟨seq, bucket, key, type, owner, time⟩ (.slice A n cap)).toArray (0, 0) _ hbu3 Tryd.underlying26 rfl infoU ?_
  simp only [Act.put, List.setIfInBounds_toArray, List.set_cons_succ, List.set_cons_zero]
  have hstd : BoxU (W4.setRow N2 (upL ⟨seq, bucket, key, type, owner, time⟩ (.slice A n cap)).toArray) N2 ⟨seq, bucket, key, type, owner, time⟩ (.slice A n cap) := setRow_heap W4 _ _ _ _ _ hbn
  have hq5 : Q w4 (W4.setRow N2 (upL ⟨seq, bucket, key, type, owner, time⟩ (.slice A n cap)).toArray) := hqn.below (below_setRow (Below.refl _ _) (by omega) _)
  have hf6 := hstd.fz 6
  have hc6 := hstd.c6
  have hbu5 := (hbu3.q hq5).c6
  go_upto_region 5 with (refine wpList_store_row rfl 26 _ _ rfl N2 (upL ⟨seq, bucket, key, type, owner, time⟩ (.slice A n cap)).toArray (by rfl) (by rfl) 26 _ hbn infoU rfl (upL_one _ _ rfl) ?_)
  obtain ⟨W5, hW5⟩ : ∃ W, W4.setRow N2 (upL ⟨seq, bucket, key, type, owner, time⟩ (.slice A n cap)).toArray = W := ⟨_, rfl⟩
  rw [hW5] at hLL hf6 hc6 hbu5 hq5 ⊢
  have hnn : (n : Int) ≤ (n : Int) + 1 := by omega
  have hmm : (m : Int) ≤ (m : Int) + 1 := by omega
  have hq6 : Q w4 (W5.setCell ⟨N2, 6, none⟩ (.slice (some ⟨G, 0, none⟩) n (n + 1))) := hq5.setNew (p := ⟨N2, 6, none⟩) (by simp; omega) _
  have hLz6 := hLz.q hq6
  have hLb6 := hLb.q hq6
  clear hstd hW5 hbn hN2 hW4b hq5 hqn hbu3 hq6 hLz hLb
  go_upto_region 6 with (fail)
  obtain ⟨W6, hW6⟩ : ∃ W, W5.setCell ⟨N2, 6, none⟩ (.slice (some ⟨G, 0, none⟩) n (n + 1)) = W := ⟨_, rfl⟩
  rw [hW6] at hLL hLz6 hLb6 ⊢
  have HL6 := Lib.hid (LawC.mk hLL.out hLb6 hLz6)
  clear hW6 hf6 hc6 hbu5 hLL hLb6 hLz6
  go_step
  refine wpList_load_row rfl 26 (.tmp 3) rfl N0 (by rfl) 26 (upL ⟨seq, bucket, key, type, owner, time⟩ (.slice A n cap)).toArray (0, 0) _ HL6.out.b.bu Tryd.underlying26 rfl infoU ?_
  simp only [Act.put, List.setIfInBounds_toArray, List.set_cons_succ, List.set_cons_zero]
  have hRc : Calls Tryd.prog 17 #[.agg (upL ⟨seq, bucket, key, type, owner, time⟩ (.slice A n cap)).toArray, .slice B m cap2, .int .i64 now] W6 _ := HRC.out W6 HL6.out.b.p HL6.out.hl
  clear HRC
  go_wp2_with fail
  refine hRc.mono ?_
  rintro e w7 ⟨⟨v7, rfl, ho7⟩, hq7⟩
  clear hRc
  obtain ⟨A7, c7, hv7, hl7, hc7, hP7⟩ := ho7.slice
  subst hv7
  obtain ⟨k, hk⟩ : ∃ k, k = L.length := ⟨_, rfl⟩
  rw [← hk] at ho7 ⊢
  have HM := Lib.hid hk
  clear hl7 hc7 hP7 hk
  obtain ⟨hb8, hq8⟩ := BoxV.make w7 ⟨sq, nl, mk, tg, ty, sz, tm⟩ (.slice A7 k c7)
  have hbn := BoxV.new w7 zV (.slice none 0 0)
  obtain ⟨N8, hN8⟩ : ∃ G, w7.heap.size = G := ⟨_, rfl⟩
  rw [hN8] at hb8 hq8 hbn
  obtain ⟨W8, hW8⟩ : ∃ W, w7.alloc (.cells (verL zV (.slice none 0 0)).toArray 37) = W := ⟨_, rfl⟩
  rw [hW8] at hb8 hq8 hbn
  have hW8b : w7.alloc (.cells #[.int .i64 0, .bool false, .bool false, .string ⟨#[]⟩, .string ⟨#[]⟩, .int .i64 0, .int .i64 0, .slice none 0 0] 37) = W8 := hW8
  have HL9 := Lib.hid (HL6.out.go (hq7.trans hq8))
  have HO9 := Lib.hid (ho7.q hq8)
  clear hW8 hq7 hq8 ho7
  unfold verV
  go_upto_region 7 with (refine wpList_store_row rfl 37 _ _ rfl N8 (verL ⟨sq, nl, mk, tg, ty, sz, tm⟩ (.slice A7 k c7)).toArray (by rfl) (by rfl) 37 _ hbn infoV rfl (verL_one _ _ rfl) ?_)
  obtain ⟨W9, hW9⟩ : ∃ W, W8.setRow N8 (verL ⟨sq, nl, mk, tg, ty, sz, tm⟩ (.slice A7 k c7)).toArray = W := ⟨_, rfl⟩
  rw [hW9] at hb8 HL9 HO9 ⊢
  have HB9 := Lib.hid hb8
  clear hW9 hbn hN8 hW8b hb8
  refine wp_flo [0, 1, 2, 3, 4, 5] [(6, [7, 8, 9])] 10 [11, 12] [[0, 1, 2, 3, 4, 5, 6, 7, 8], [0, 1, 2, 3, 4, 5, 6, 7, 9]] (.cells (verL zV (.slice none 0 0)).toArray 37) (by kernel_rfl) (by kernel_rfl) (fun ρ W => by kernel_rfl) ?_
  simp only [wpCh, opsL, List.map_cons, List.map_nil, Array.getD_eq_getD_getElem?, List.getElem?_toArray, List.getElem?_cons_succ, List.getElem?_cons_zero, Option.getD_some]
  refine wpQuiet_load_row rfl 26 (.tmp 10) rfl N2 (by rfl) 26 (upL ⟨seq, bucket, key, type, owner, time⟩ (.slice (some ⟨G, 0, none⟩) n (n + 1))).toArray (0, 0) _ (fun w' hw' => by obtain ⟨m, rfl⟩ := hw'; exact (HL9.out.b.go ((Q.refl W9).drew.trans m.le)).by') Tryd.underlying26 rfl infoU ?_
  simp only [Act.put, List.setIfInBounds_toArray, List.set_cons_succ, List.set_cons_zero]
  (repeat (go_big_quiet_step (fail)))
  refine wpQuiet_nil ?_
  obtain ⟨wd, hwd⟩ : ∃ W, W9.drew = W := ⟨_, rfl⟩
  have hqd : Q W9 wd := by rw [← hwd]; exact (Q.refl W9).drew
  rw [hwd]
  have HL := Lib.hid (HL9.out.go hqd)
  have HB9 := Lib.hid (HB9.out.q hqd)
  have HO9 := Lib.hid (HO9.out.q hqd)
  have HQd : Hid (Q wd wd) := (Q.refl wd : Q wd wd)
  clear hwd hqd HL9
  intro W hW K hK
  have HQd := Lib.hid (HQd.out.trans hW)
  have hPc : Calls Tryd.prog 12 #[.agg (upL ⟨seq, bucket, key, type, owner, time⟩ (.slice (some ⟨G, 0, none⟩) n (n + 1))).toArray, .slice (some ⟨Z, 0, none⟩) m (m + 1), .int .i64 now] W _ := HPC.out G Z W (HL.out.go hW).b.y (HL.out.go hW).y (HL.out.go hW).b.t
  clear hW HPC
  go_wp2_with fail
  refine hPc.mono ?_
  rintro e w10 ⟨⟨v10, rfl, ho10⟩, hq10⟩
  clear hPc
  obtain ⟨A10, c10, hv10, hl10, hc10, hP10⟩ := ho10.slice
  subst hv10
  rw [← HM.out] at ho10 ⊢
  clear hl10 hc10 hP10
  have HO10 := Lib.hid ho10
  have HQd := Lib.hid (HQd.out.trans hq10)
  unfold verV
  go_wp2_with fail
  refine hK.out _ _ hq10 ?_
  clear hq10 ho10 hK K
  (repeat (go_big_quiet_step (fail)))
  refine wpQuiet_nil ?_
  intro W' b2 hW hb hN2
  have HO10 := Lib.hid (HO10.out.q hW)
  have HQd := Lib.hid (HQd.out.trans hW)
  have hqs := HQd.out.below (below_setRow (Below.refl _ _) hN2 (verL ⟨sq, nl, mk, tg, ty, sz, tm⟩ (.slice A10 k c10)).toArray)
  have HL12 := Lib.hid (HL.out.go hqs)
  have HB12 := Lib.hid (HB9.out.q hqs)
  have HR12 := Lib.hid (HO9.out.q hqs)
  have hBV : BoxV W' b2 zV (.slice none 0 0) := hb
  have HO12 := Lib.hid (HO10.out.row hBV ⟨sq, nl, mk, tg, ty, sz, tm⟩ (.slice A10 k c10))
  have hBW : BoxV (W'.setRow b2 (verL ⟨sq, nl, mk, tg, ty, sz, tm⟩ (.slice A10 k c10)).toArray) b2 ⟨sq, nl, mk, tg, ty, sz, tm⟩ (.slice A10 k c10) := setRow_heap W' _ _ _ _ _ hBV
  have HC12 := Lib.hid hBW
  clear hN2 hb HQd HL HB9 HO9 HO10 hBW hW hqs
  go_wp2_with (refine wpList_store_row rfl 37 _ _ rfl b2 (verL ⟨sq, nl, mk, tg, ty, sz, tm⟩ (.slice A10 k c10)).toArray (by rfl) (by rfl) 37 _ hBV infoV rfl (verL_one _ _ rfl) ?_)
  refine NoPanic.normal ?_
  obtain ⟨W12, hW12⟩ : ∃ X, W'.setRow b2 (verL ⟨sq, nl, mk, tg, ty, sz, tm⟩ (.slice A10 k c10)).toArray = X := ⟨_, rfl⟩
  rw [hW12] at HL12 HB12 HR12 HO12 HC12 ⊢
  clear hW12 hBV
  go_upto_region 8 with (fail)
  go_step
  refine wpList_load_row rfl 37 (.tmp 13) rfl b2 (by rfl) 37 (verL ⟨sq, nl, mk, tg, ty, sz, tm⟩ (.slice A10 k c10)).toArray (0, 0) _ HC12.out Tryd.underlying37 rfl infoV ?_
  simp only [Act.put, List.setIfInBounds_toArray, List.set_cons_succ, List.set_cons_zero]
  refine wpList_load_row rfl 37 (.tmp 11) rfl N8 (by rfl) 37 (verL ⟨sq, nl, mk, tg, ty, sz, tm⟩ (.slice A7 k c7)).toArray (0, 0) _ HB12.out Tryd.underlying37 rfl infoV ?_
  simp only [Act.put, List.setIfInBounds_toArray, List.set_cons_succ, List.set_cons_zero]
  have hSame : Calls Tryd.prog 18 #[.agg (verL ⟨sq, nl, mk, tg, ty, sz, tm⟩ (.slice A10 k c10)).toArray, .agg (verL ⟨sq, nl, mk, tg, ty, sz, tm⟩ (.slice A7 k c7)).toArray] W12 _ := SameVersion_any ⟨sq, nl, mk, tg, ty, sz, tm⟩ A10 A7 k c10 c7 L W12 (HO12.out.sub HM.out) (HR12.out.sub HM.out) (by have := HM.out; have := HLn.out; omega)
  go_wp2_with fail
  refine hSame.mono ?_
  rintro e w13 ⟨rfl, hq13⟩
  have HL13 := Lib.hid (HL12.out.go hq13)
  clear hSame HL12 HO12 HC12 HB12 HR12 hq13
  go_wp2_with fail
  refine (HPE.out Z w13 HL13.out.y HL13.out.b.t).mono ?_
  rintro e w14 ⟨rfl, hq14⟩
  have HL14 := Lib.hid (HL13.out.go hq14)
  clear hq14 HPE HL13
  go_wp2_with fail
  refine (HRE.out w14 HL14.out.hl).mono ?_
  rintro e w15 ⟨rfl, hq15⟩
  have HL15 := Lib.hid (HL14.out.go hq15)
  have hb6 := HL15.out.b.bu.c6
  clear hq15 HRE HL14
  go_wp2_with fail
  refine (still_any (some ⟨G, 0, none⟩) A n (n + 1) cap ps w15 HL15.out.b.x HL15.out.b.p hn).mono ?_
  rintro e w16 ⟨rfl, hq16⟩
  have HL16 := Lib.hid (HL15.out.go hq16)
  clear hq16 hb6 HL15
  go_wp2_with fail
  refine (still_any (some ⟨Z, 0, none⟩) B m (m + 1) cap2 l w16 HL16.out.z HL16.out.hl hm).mono ?_
  rintro e w17 ⟨rfl, hq17⟩
  have hfin := HL16.out.b.q.trans hq17
  clear hq17
  cases b with
  | false =>
    rw [show putE false = 1 from rfl]
    go_wp2_with fail
    go_ret
    exact ⟨rfl, hfin⟩
  | true =>
    rw [show putE true = 0 from rfl]
    go_wp2_with fail
    go_ret
    exact ⟨rfl, hfin⟩
end Go.Proofs.YtbhgekhcpagkoaaDoor
