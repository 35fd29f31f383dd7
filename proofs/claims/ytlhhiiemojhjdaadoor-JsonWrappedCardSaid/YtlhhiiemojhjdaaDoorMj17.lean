/- Texts of this proof, laid into one: KeA, KeB, KeC, KeD, KeE, KeF, ShapedJ. -/
import Derived.Test.YtlhhiiemojhjdaaDoorMj16
import Derived.Test.YtlhhiiemojhjdaaDoorRows
import Derived.SizedLaws
import Derived.Deep.Slices
import Derived.HandedShaped
import Derived.SevenTiedAt
/- JSON, plain: the errors' codes; the chapter's examples. -/
set_option linter.unusedVariables false
set_option linter.unusedSimpArgs false
namespace Go.Proofs.YtlhhiiemojhjdaaDoor
open Go Go.RowKit
def badC {α : Type} (p : PR α) : Prop := ∀ e n, p = .bad e n → e = 54 ∨ e = 57
theorem bc_ok {α : Type} (v : α) (r : List UInt8) : badC (PR.ok v r) := fun e n h => by cases h
theorem bc_54 {α : Type} (n : Nat) : badC (PR.bad (α := α) 54 n) := fun e m h => by cases h; exact .inl rfl
theorem bc_57 {α : Type} (n : Nat) : badC (PR.bad (α := α) 57 n) := fun e m h => by cases h; exact .inr rfl
theorem bc_bind {α β : Type} {p : PR α} {k : α → List UInt8 → PR β} (h1 : badC p) (h2 : ∀ v r, badC (k v r)) : badC (p.bind k) := by
  cases p with
  | ok v r => exact h2 v r
  | bad e n => exact fun e' n' h => by cases h; exact h1 e n rfl
theorem bc_if {α : Type} {c : Prop} [Decidable c] {a b : PR α} (h1 : badC a) (h2 : badC b) : badC (if c then a else b) := by
  split
  · exact h1
  · exact h2
theorem bc_take (b : UInt8) (l : List UInt8) : badC (takeR b l) := by
  cases l with
  | nil => exact bc_54 _
  | cons c t => rw [takeR]; exact bc_if (bc_ok _ _) (bc_54 _)
theorem bc_word (w : List UInt8) : ∀ l, badC (wordR w l) := by
  induction w with
  | nil => intro l; exact bc_ok _ _
  | cons b w ih => intro l; rw [wordR]; exact bc_bind (bc_take _ _) (fun _ t => ih t)
theorem bc_dig (l : List UInt8) : badC (digR l) := by unfold digR; exact bc_if (bc_ok _ _) (bc_54 _)
theorem bc_num (l : List UInt8) : badC (numR l) := by
  unfold numR
  refine bc_bind (by unfold intR; exact bc_if (bc_ok _ _) (bc_dig _)) (fun _ l2 => bc_bind (by unfold fracR; exact bc_if (bc_dig _) (bc_ok _ _)) (fun _ l3 => by unfold expR; exact bc_if (bc_dig _) (bc_ok _ _)))
theorem bc_four (f : Nat) : ∀ (k n : Nat) (l : List UInt8), badC (fourR f k n l)
  | 0, n, l => by rw [fourR]; exact bc_ok _ _
  | k + 1, n, [] => by rw [fourR]; exact bc_54 _
  | k + 1, n, b :: t => by
    rw [fourR]
    cases hexJ b with
    | none => exact bc_54 _
    | some v => exact bc_four f k _ t
theorem bc_must (f : Nat) (b : UInt8) (l : List UInt8) : badC (mustR f b l) := by
  cases l with
  | nil => exact bc_54 _
  | cons c t => rw [mustR]; exact bc_if (bc_ok _ _) (bc_54 _)
theorem bc_code (f c : Nat) (l : List UInt8) : badC (codeR f c l) := by
  unfold codeR
  refine bc_if (bc_54 _) (bc_if ?_ (bc_ok _ _))
  refine bc_bind ?_ (fun d t => bc_if (bc_ok _ _) (bc_54 _))
  unfold unitR
  exact bc_bind (bc_must _ _ _) (fun _ t => bc_bind (bc_must _ _ _) (fun _ u => bc_four _ _ _ _))
theorem bc_esc (l : List UInt8) : badC (escR l) := by
  match l with
  | [] => exact bc_54 _
  | [_] => exact bc_54 _
  | a :: b :: t =>
    rw [escR]
    refine bc_if (bc_bind (bc_four _ _ _ _) (fun c u => bc_code _ _ _)) ?_
    cases simpleE b with
    | none => exact bc_54 _
    | some c => exact bc_ok _ _
theorem bc_txt : ∀ (n : Nat) (l acc : List UInt8), badC (txtR n l acc)
  | 0, l, acc => by rw [txtR]; exact bc_54 _
  | n + 1, [], acc => by rw [txtR]; exact bc_54 _
  | n + 1, b :: t, acc => by
    rw [txtR]
    exact bc_if (bc_ok _ _) (bc_if (bc_bind (bc_esc _) (fun c u => bc_txt n _ _)) (bc_if (bc_54 _) (bc_txt n _ _)))
theorem bc_text (l : List UInt8) : badC (textR l) := bc_bind (bc_take _ _) (fun _ t => bc_txt _ _ _)
theorem bc_items {α : Type} {one : List UInt8 → PR α} (h : ∀ l, badC (one l)) (c : UInt8) : ∀ (n : Nat) (l : List UInt8) (acc : List α), badC (itemsR one c n l acc)
  | 0, l, acc => by rw [itemsR]; exact bc_54 _
  | n + 1, l, acc => by
    rw [itemsR]
    exact bc_bind (h l) (fun v r => bc_if (bc_ok _ _) (bc_bind (bc_take _ _) (fun _ u => bc_items h c n _ _)))
theorem bc_row {α : Type} {one : List UInt8 → PR α} (h : ∀ l, badC (one l)) (c : UInt8) (l : List UInt8) : badC (rowR one c l) := by
  unfold rowR; exact bc_if (bc_ok _ _) (bc_items h c _ _ _)
theorem bc_const (w : List UInt8) (k : Int) (l : List UInt8) : badC (constR w k l) := bc_bind (bc_word w l) (fun _ t => bc_ok _ _)
theorem bc_atom (l : List UInt8) : badC (atomR l) := by
  unfold atomR
  exact bc_if (bc_bind (bc_text _) (fun _ _ => bc_ok _ _)) (bc_if (bc_const _ _ _) (bc_if (bc_const _ _ _) (bc_if (bc_const _ _ _) (bc_if (bc_bind (bc_num _) (fun _ _ => bc_ok _ _)) (bc_54 _)))))
theorem bc_val : ∀ (d : Nat) (l : List UInt8), badC (valR d l)
  | 0, l => by rw [valR]; exact bc_if (bc_57 _) (bc_atom l)
  | d + 1, l => by
    rw [valR]
    refine bc_if (bc_bind (bc_row (bc_val d) _ _) (fun _ _ => bc_ok _ _)) (bc_if (bc_bind (bc_row ?_ _ _) (fun _ _ => bc_ok _ _)) (bc_atom l))
    intro l'
    unfold pairR
    exact bc_bind (bc_text _) (fun name r => bc_bind (bc_take _ _) (fun _ u => bc_bind (bc_val d _) (fun v t => bc_ok _ _)))
theorem parse_code {s : Txt} {c a : Nat} (h : parseJ s = .error (c, a)) : c = 54 ∨ c = 56 ∨ c = 57 := by
  unfold parseJ at h
  split at h
  · cases h; exact .inr (.inl rfl)
  · split at h
    · next e n hv =>
      cases h
      rcases bc_val 20 _ _ _ hv with h | h
      · exact .inl h
      · exact .inr (.inr h)
    · split at h
      · cases h
      · cases h; exact .inl rfl
/-! The chapter's examples. -/
def exS : Txt := [123, 34, 97, 34, 58, 32, 91, 49, 44, 32, 34, 120, 34, 44, 32, 110, 117, 108, 108, 93, 125]
def exK : JsonD := .mk 6 [] [] [.mk 4 [49] [] [], .mk 5 [120] [] [], .mk 1 [] [] []]
def exJ : JsonD := .mk 7 [] [[97]] [exK]
theorem ex_parse : parseJ exS = .ok exJ := by kernel_rfl
theorem ex_bad : parseJ [91, 49, 44, 93] = .error (54, 3) := by kernel_rfl
theorem ex_write : writeR exJ = ([123, 34, 97, 34, 58, 91, 49, 44, 34, 120, 34, 44, 110, 117, 108, 108, 93, 125], 0) := by kernel_rfl
theorem ex_find : findJ exJ [97] = (exK, true) := by kernel_rfl
theorem ex_same : sameF exJ exJ = true := by kernel_rfl
end Go.Proofs.YtlhhiiemojhjdaaDoor
/- Law 14: told. -/
set_option linter.unusedVariables false
set_option linter.unusedSimpArgs false
namespace Go.Proofs.YtlhhiiemojhjdaaDoor
open Go Go.RowKit
set_option maxRecDepth 100000 in
theorem told_nil (w : World) : Calls Tryd.prog 23 #[.nilIface] w fun e w' => e = .returned (.tuple #[.int .i64 0, .int .i64 0, .bool true]) ∧ Q w w' := by
  go_enter Tryd.func23, Tryd.ntmps23
  go_wp2_with fail
  refine bodyPost_ret (results_tmp3 rfl _ _ _) rfl ?_
  exact ⟨rfl, Q.refl w⟩
theorem errFault (a : Option Addr) (w : World) : (Instr.typeAssert (.iface 76 (.pointer a)) 32 76 true).run Tryd.prog w = .ok (.tuple #[.pointer a, .bool true]) w := by kernel_rfl
set_option maxRecDepth 100000 in
theorem told_fault (w : World) (bf : Nat) (c a : Int) (h : FaultJ w bf c a) (hc : c ≠ 0) : Calls Tryd.prog 23 #[.iface 76 (.pointer (some ⟨bf, 0, none⟩))] w fun e w' => e = .returned (.tuple #[.int .i64 c, .int .i64 a, .bool true]) ∧ Q w w' := by
  have x0 : w.cell? ⟨bf, 0, none⟩ = some (.int .i64 c) := by rw [cell_of_row _ _ _ _ _ _ h]; rfl
  have x1 : w.cell? ⟨bf, 1, none⟩ = some (.int .i64 a) := by rw [cell_of_row _ _ _ _ _ _ h]; rfl
  have x2 : w.cell? ⟨bf, 2, none⟩ = some .nilIface := by rw [cell_of_row _ _ _ _ _ _ h]; rfl
  have g1 : decide (c = 0) = false := by simpa using hc
  have g2 : (c == 0) = false := by simpa using hc
  clear h
  go_enter Tryd.func23, Tryd.ntmps23
  have mixed : Tryd.prog.follows .mixedOrders = true := by kernel_rfl
  go_wp2_with fail
  rw [errFault]
  simp only [Result.andThen]
  rw [Oper.upon_value]
  go_upto_region 6 with (fail)
  have c0 : w.drew.cell? ⟨bf, 0, none⟩ = some (.int .i64 c) := x0
  have c1 : w.drew.cell? ⟨bf, 1, none⟩ = some (.int .i64 a) := x1
  go_region_o
  all_goals
    go_wp2_with fail
    refine bodyPost_ret (results_tmp3 rfl _ _ _) rfl ?_
    exact ⟨rfl, (Q.refl w).drew⟩
end Go.Proofs.YtlhhiiemojhjdaaDoor
/- Law 14: the chapter's examples. -/
set_option linter.unusedVariables false
set_option linter.unusedSimpArgs false
namespace Go.Proofs.YtlhhiiemojhjdaaDoor
open Go Go.RowKit
/-- A value in a box, and what it leads to. -/
def BoxV (W : World) (b : Nat) (j : JsonD) (vn vk : Value) : Prop := W.heap[b]? = some (.cells (cellJ j vn vk).toArray 40 (0, 0)) ∧ JV W j vn vk
theorem BoxV.q {W W' : World} {b : Nat} {j : JsonD} {vn vk : Value} (h : BoxV W b j vn vk) (hq : Q W W') : BoxV W' b j vn vk := ⟨hq.block h.1, h.2.q hq⟩
theorem ex_big : bigJ 1100000 exJ := by
  unfold exJ exK
  simp [bigJ, bigKs]
/-- A new box. -/
theorem box_new {w : World} {j : JsonD} {vn vk : Value} (h : JV w j vn vk) : ∃ W N, w.heap.size = N ∧ (w.alloc (.cells #[.int .i64 0, .string ⟨#[]⟩, .slice none 0 0, .slice none 0 0] 40)).setRow w.heap.size (cellJ j vn vk).toArray = W ∧ Q w W ∧ BoxV W N j vn vk := by
  have q := ((Q.refl w).alloc (.cells #[.int .i64 0, .string ⟨#[]⟩, .slice none 0 0, .slice none 0 0] 40)).setRow (Nat.le_refl _) (cellJ j vn vk).toArray
  exact ⟨_, _, rfl, rfl, q, setRow_at (heap_alloc_new w _) _, h.q q⟩
theorem jv_one {w : World} {j : JsonD} {vn vk : Value} (h : JV w j vn vk) : (cellJ j vn vk).toArray.all (·.oneCell') = true := cellJ_one (j := j) (jv_slices h).1 (jv_slices h).2
theorem BoxV.load {W : World} {b : Nat} {k : Int} {t : Txt} {ns : List Txt} {ks : List JsonD} {A1 A2 : Option Addr} {n1 c1 n2 c2 : Nat} (h : BoxV W b (.mk k t ns ks) (.slice A1 n1 c1) (.slice A2 n2 c2)) :
    W.cell? ⟨b, 0, none⟩ = some (.int .i64 k) ∧ W.cell? ⟨b, 1, none⟩ = some (.string ⟨t.toArray⟩) ∧ W.cell? ⟨b, 2, none⟩ = some (.slice A1 n1 c1) ∧ W.cell? ⟨b, 3, none⟩ = some (.slice A2 n2 c2) := by
  have h := h.1
  exact ⟨by rw [cell_of_row _ _ _ _ _ _ h]; rfl, by rw [cell_of_row _ _ _ _ _ _ h]; rfl, by rw [cell_of_row _ _ _ _ _ _ h]; rfl, by rw [cell_of_row _ _ _ _ _ _ h]; rfl⟩
set_option maxRecDepth 100000 in
theorem examples14 (w : World) (hu : UT w) : Calls Tryd.prog 19 #[] w fun e w' => e = .returned (.bool true) ∧ Q w w' := by
  have HU := Lib.hid hu
  have HPa := Lib.hid (parse_any exS w hu)
  clear hu
  go_enter Tryd.func19, Tryd.ntmps19
  go_wp2_with fail
  refine HPa.out.mono ?_
  rintro e w1 ⟨hq1, hp⟩
  rw [ex_parse] at hp
  obtain ⟨vn, vk, rfl, hj⟩ := hp
  have hjv := hj.read
  obtain ⟨⟨A1, n1, c1n, rfl⟩, A2, n2, c2n, rfl⟩ := jv_slices hjv
  have HJ1 := Lib.hid hjv
  have HQ1 := Lib.hid hq1
  clear hj hjv hq1
  have HIn1 := Lib.hid (info_sz exJ (.slice A1 n1 c1n) (.slice A2 n2 c2n))
  have HOne1 := Lib.hid (jv_one HJ1.out)
  go_upto_region 2 with (refine wpList_store_row rfl 40 (.tmp 1) (.tmp 14) rfl w1.heap.size (cellJ exJ (.slice A1 n1 c1n) (.slice A2 n2 c2n)).toArray rfl rfl 40 _ (heap_alloc_new w1 _) HIn1.out rfl HOne1.out ?_)
  obtain ⟨W2, N1, hN1, hW2, hq2, hb2⟩ := box_new HJ1.out
  rw [hN1] at hW2
  simp only [Act.put, hN1, hW2]
  have HB2 := Lib.hid hb2
  have HQ2 := Lib.hid (HQ1.out.trans hq2)
  have HPb := Lib.hid (parse_any [91, 49, 44, 93] W2 (Utf8Tabs_below HU.out (HQ1.out.trans hq2)))
  clear hN1 hW2 hq2 hb2 HPa
  go_wp2_with fail
  refine HPb.out.mono ?_
  rintro e w3 ⟨hq3, hp⟩
  rw [ex_bad] at hp
  obtain ⟨bf, rfl, hf⟩ := hp
  have HF3 := Lib.hid hf
  have HQ3 := Lib.hid (HQ2.out.trans hq3)
  have HB3 := Lib.hid (HB2.out.q hq3)
  have HZ := Lib.hid (jo_nil (w := w3) (k := 0) (t := []) (Nat.le_refl 0)).read
  have HIn0 := Lib.hid (info_sz zeroJ (.slice none 0 0) (.slice none 0 0))
  have HOne0 := Lib.hid (cellJ_one (j := zeroJ) ⟨none, 0, 0, rfl⟩ ⟨none, 0, 0, rfl⟩)
  clear hf hq3 HPb
  go_upto_region 3 with (refine wpList_store_row rfl 40 (.tmp 3) (.tmp 18) rfl w3.heap.size zeroC.toArray rfl rfl 40 _ (heap_alloc_new w3 _) HIn0.out rfl HOne0.out ?_)
  obtain ⟨W4, N2, hN2, hW4, hq4, hb4⟩ := box_new (j := zeroJ) (vn := .slice none 0 0) (vk := .slice none 0 0) HZ.out
  have hW4' : (w3.alloc (.cells #[.int .i64 0, .string ⟨#[]⟩, .slice none 0 0, .slice none 0 0] 40)).setRow w3.heap.size zeroC.toArray = W4 := hW4
  rw [hN2] at hW4'
  simp only [Act.put, hN2, hW4']
  have HB4 := Lib.hid (HB3.out.q hq4)
  have HQ4 := Lib.hid (HQ3.out.trans hq4)
  have HTo := Lib.hid (told_fault W4 bf 54 3 (HF3.out.q hq4) (by decide))
  clear hN2 hW4 hW4' hq4 hb4
  go_wp2_with fail
  refine HTo.out.mono ?_
  rintro e w5 ⟨rfl, hq5⟩
  have HQ5 := Lib.hid (HQ4.out.trans hq5)
  have HB5 := Lib.hid (HB4.out.q hq5)
  have hWr := Write_any exJ w5 _ _ HB5.out.2 (Utf8Tabs_below HU.out HQ5.out) ex_big
  rw [ex_write] at hWr
  have HWr := Lib.hid hWr
  obtain ⟨x0, x1, x2, x3⟩ := HB5.out.load
  clear hq5 hWr HTo
  go_upto_region 4 with (fail)
  go_wp2_with fail
  refine HWr.out.mono ?_
  rintro e w6 ⟨rfl, hq6⟩
  have HQ6 := Lib.hid (HQ5.out.trans hq6)
  have HB6 := Lib.hid (HB5.out.q hq6)
  have hFi := Find_any exJ [97] w6 _ _ HB6.out.2 (Utf8Tabs_below HU.out HQ6.out) (bigJ_mono (by decide) _ ex_big)
  have HFi := Lib.hid hFi
  clear x0 x1 x2 x3 hq6 hFi HWr
  obtain ⟨x0, x1, x2, x3⟩ := HB6.out.load
  go_wp2_with fail
  refine HFi.out.mono ?_
  rintro e w7 ⟨un, uk, rfl, hj7, hq7⟩
  rw [ex_find] at hj7
  rw [ex_find]
  have hjv7 := hj7.read
  have HQ7 := Lib.hid (HQ6.out.trans hq7)
  have HB7 := Lib.hid (HB6.out.q hq7)
  obtain ⟨⟨A3, n3, c3n, rfl⟩, A4, n4, c4n, rfl⟩ := jv_slices hjv7
  have HJ7 := Lib.hid hjv7
  have HIn7 := Lib.hid (info_sz exK (.slice A3 n3 c3n) (.slice A4 n4 c4n))
  have HOne7 := Lib.hid (jv_one hjv7)
  clear x0 x1 x2 x3 hq7 hj7 hjv7 HFi
  go_upto_region 6 with (refine wpList_store_row rfl 40 (.tmp 10) (.tmp 34) rfl w7.heap.size (cellJ exK (.slice A3 n3 c3n) (.slice A4 n4 c4n)).toArray rfl rfl 40 _ (heap_alloc_new w7 _) HIn7.out rfl HOne7.out ?_)
  obtain ⟨W8, N3, hN3, hW8, hq8, hb8⟩ := box_new HJ7.out
  rw [hN3] at hW8
  simp only [Act.put, hN3, hW8]
  have HB8 := Lib.hid (HB7.out.q hq8)
  have HK8 := Lib.hid hb8
  have HQ8 := Lib.hid (HQ7.out.trans hq8)
  have hSa := Same_any exJ exJ W8 _ _ _ _ HB8.out.2 HB8.out.2 (Utf8Tabs_below HU.out HQ8.out) (bigJ_mono (by decide) _ ex_big) (bigJ_mono (by decide) _ ex_big)
  rw [ex_same] at hSa
  have HSa := Lib.hid hSa
  clear hN3 hW8 hq8 hb8 hSa
  obtain ⟨x0, x1, x2, x3⟩ := HB8.out.load
  obtain ⟨y0, y1, y2, y3⟩ := HK8.out.load
  obtain ⟨A, c, e, hc1, hc2, hk⟩ := HB8.out.2.kidAt
  injection e with e1 e2 e3
  subst e1 e2 e3
  obtain ⟨g, off, u1, u2, hA⟩ := hk 0 (by decide)
  obtain rfl := hA.a
  have hjk : JV W8 exK u1 u2 := hA.jv
  obtain ⟨A5, c5, e5, hc3, hc4, _⟩ := hjk.kidAt
  have hcell := hA.rg 3 u2 rfl
  rw [e5] at hcell
  have z3 : W8.cell? ⟨g, off + 3, none⟩ = some (.slice A5 3 c5) := by simpa using hcell
  have x3 : W8.cell? ⟨N1, 3, none⟩ = some (.slice (some ⟨g, off, none⟩) 1 c2n) := x3
  clear hk hA hjk hcell e5 hc1 hc2 hc3 hc4 HJ1 HIn1 HOne1 HB2 HB3 HB4 HB5 HB6 HB7 HB8 HK8 HJ7 HIn7 HOne7
  go_wp2_with fail
  refine HSa.out.mono ?_
  rintro e w9 ⟨rfl, hq9⟩
  have HX := Lib.hid (HQ8.out.trans hq9)
  clear hq9 x0 x1 x2 x3 y0 y1 y2 y3 z3
  go_wp2_with fail
  go_ret
  exact ⟨rfl, HX.out⟩
end Go.Proofs.YtlhhiiemojhjdaaDoor
/- JsonBack. -/
set_option linter.unusedVariables false
set_option linter.unusedSimpArgs false
namespace Go.Proofs.YtlhhiiemojhjdaaDoor
open Go Go.RowKit
theorem parse_len {s : Txt} {v : JsonD} (h : parseJ s = .ok v) : s.length ≤ 8000 := by
  unfold parseJ at h
  split at h
  · cases h
  · omega
theorem parse_small {s : Txt} (h : s.length ≤ 8000) : parseJ s = parseE s := by
  unfold parseJ parseE
  rw [if_neg (by omega)]
  rfl
theorem rt_parse {s : Txt} {v : JsonD} (h : parseJ s = .ok v) : rtB v 20 8000 = true ∧ numJ v = true := by
  have hl := parse_len h
  rw [parse_small hl] at h
  obtain ⟨h1, h2, h3⟩ := parse_right h hl
  refine ⟨?_, h2⟩
  unfold rtB
  rw [h1]
  simp; omega
theorem same_refl {j : JsonD} (h : rtB j 20 8000 = true) : sameF j j = true := by
  unfold sameF
  rw [h]
  simp only [Bool.true_and]
  exact (eqJ_iff j j).2 rfl
theorem write_ok {j : JsonD} (h1 : rtB j 20 8000 = true) (h2 : numJ j = true) : writeR j = if 8000 < (writeJ j).length then ([], 56) else (writeJ j, 0) := by
  unfold writeR; rw [if_pos ⟨h1, h2⟩]
theorem write_yes {j : JsonD} {t : Txt} (h : writeR j = (t, 0)) : rtB j 20 8000 = true ∧ numJ j = true ∧ t = writeJ j ∧ t.length ≤ 8000 := by
  unfold writeR at h
  split at h
  · next hc =>
    split at h
    · injection h with _ h; cases h
    · next hl =>
      injection h with h _
      exact ⟨hc.1, hc.2, h.symm, by rw [← h]; omega⟩
  · injection h with _ h; cases h
theorem back_parse {j : JsonD} {t : Txt} (h : writeR j = (t, 0)) : parseJ t = .ok j := by
  obtain ⟨h1, h2, h3, h4⟩ := write_yes h
  rw [parse_small h4, h3]
  exact parse_write (rt_wf h1).1 h2
theorem write_code (j : JsonD) : (writeR j).2 = 0 ∨ (writeR j).2 = 54 ∨ (writeR j).2 = 56 := by
  unfold writeR
  split
  · split
    · exact .inr (.inr rfl)
    · exact .inl rfl
  · exact .inr (.inl rfl)
set_option maxRecDepth 100000 in
theorem JsonBack_any (j : JsonD) (s : Txt) (w : World) (vn vk : Value) (hj : JV w j vn vk) (hu : UT w) (hb : bigJ 1100000 j) :
    Calls Tryd.prog 7 #[.agg (cellJ j vn vk).toArray, .string ⟨s.toArray⟩] w fun e w' => e = .returned (.bool true) ∧ Q w w' := by
  have HU : Hid (∀ W, Q w W → UT W) := Lib.hid (fun W hq => Utf8Tabs_below hu hq)
  have HJv := Lib.hid hj
  have HBig := Lib.hid hb
  obtain ⟨⟨A1, n1, c1n, rfl⟩, A2, n2, c2n, rfl⟩ := jv_slices hj
  have HIn := Lib.hid (info_sz j (.slice A1 n1 c1n) (.slice A2 n2 c2n))
  clear hj hu hb
  go_enter Tryd.func7, Tryd.ntmps7
  go_upto_region 1 with (fail)
  have e1 := heap_alloc_new w (.cells (cellJ j (.slice A1 n1 c1n) (.slice A2 n2 c2n)).toArray 40)
  have q1 : Q w (w.alloc (.cells (cellJ j (.slice A1 n1 c1n) (.slice A2 n2 c2n)).toArray 40)) := (Q.refl w).alloc _
  obtain ⟨N0, hN0⟩ : ∃ N, w.heap.size = N := ⟨_, rfl⟩
  obtain ⟨W1, hW1⟩ : ∃ W1, w.alloc (.cells (cellJ j (.slice A1 n1 c1n) (.slice A2 n2 c2n)).toArray 40) = W1 := ⟨_, rfl⟩
  rw [hW1, hN0] at e1
  rw [hW1] at q1
  rw [hW1, hN0]
  have HB1 : Hid (BoxV W1 N0 j (.slice A1 n1 c1n) (.slice A2 n2 c2n)) := Lib.hid ⟨e1, HJv.out.q q1⟩
  have HQ1 := Lib.hid q1
  have HEx := Lib.hid (examples14 W1 (HU.out _ q1))
  clear e1 q1 hN0 hW1
  go_wp2_with fail
  refine HEx.out.mono ?_
  rintro e w2 ⟨rfl, hq2⟩
  have HQ2 := Lib.hid (HQ1.out.trans hq2)
  have HB2 := Lib.hid (HB1.out.q hq2)
  have HRow2 := Lib.hid (HB1.out.q hq2).1
  have hWr := Write_any j w2 _ _ HB2.out.2 (HU.out _ HQ2.out) HBig.out
  obtain ⟨R, hR⟩ : ∃ R, writeR j = R := ⟨_, rfl⟩
  have HR := Lib.hid hR
  rw [hR] at hWr
  have HWr := Lib.hid hWr
  clear hq2 hWr hR HEx
  obtain ⟨t, rc⟩ := R
  go_upto_region 2 with (fail)
  go_wp2_with (refine wpList_load_row rfl 40 (.tmp 2) rfl N0 rfl 40 (cellJ j (.slice A1 n1 c1n) (.slice A2 n2 c2n)).toArray (0, 0) _ HRow2.out Tryd.underlying40 rfl HIn.out ?_; simp only [Act.put, List.setIfInBounds_toArray, List.set_cons_succ, List.set_cons_zero])
  refine HWr.out.mono ?_
  rintro e w3 ⟨rfl, hq3⟩
  have HQ3 := Lib.hid (HQ2.out.trans hq3)
  have HB3 := Lib.hid (HB2.out.q hq3)
  clear hq3 HWr
  go_upto_if 25 with (fail)
  go_cut [] (fun wx => Hid (Q w wx))
  case first =>
    by_cases hrc : rc = 0
    · subst hrc
      have HPb := Lib.hid (parse_any t w3 (HU.out _ HQ3.out))
      have hbp := back_parse HR.out
      have HSm := Lib.hid (same_refl (write_yes HR.out).1)
      go_wp2_with fail
      refine HPb.out.mono ?_
      rintro e w4 ⟨hq4, hp⟩
      rw [hbp] at hp
      obtain ⟨un, uk, rfl, hj4⟩ := hp
      have hjv4 := hj4.read
      have HQ4 := Lib.hid (HQ3.out.trans hq4)
      have HB4 := Lib.hid (HB3.out.q hq4)
      obtain ⟨⟨A3, n3, c3n, rfl⟩, A4, n4, c4n, rfl⟩ := jv_slices hjv4
      have HJ4 := Lib.hid hjv4
      have HIn4 := Lib.hid (info_sz j (.slice A3 n3 c3n) (.slice A4 n4 c4n))
      have HOne4 := Lib.hid (jv_one hjv4)
      clear hq4 hj4 hjv4 hbp HPb
      go_upto_region 5 with (refine wpList_store_row rfl 40 (.tmp 8) (.tmp 29) rfl w4.heap.size (cellJ j (.slice A3 n3 c3n) (.slice A4 n4 c4n)).toArray rfl rfl 40 _ (heap_alloc_new w4 _) HIn4.out rfl HOne4.out ?_)
      obtain ⟨W5, N1, hN1, hW5, hq5, hb5⟩ := box_new HJ4.out
      rw [hN1] at hW5
      simp only [Act.put, hN1, hW5]
      have HB5 := Lib.hid (HB4.out.q hq5)
      have HK5 := Lib.hid hb5
      have HQ5 := Lib.hid (HQ4.out.trans hq5)
      have hSa := Same_any j j W5 _ _ _ _ HB5.out.2 HK5.out.2 (HU.out _ HQ5.out) (bigJ_mono (by decide) _ HBig.out) (bigJ_mono (by decide) _ HBig.out)
      rw [HSm.out] at hSa
      have HSa := Lib.hid hSa
      clear hN1 hW5 hq5 hb5 hSa
      obtain ⟨k, jt, ns, ks⟩ := j
      obtain ⟨x0, x1, x2, x3⟩ := HB5.out.load
      obtain ⟨y0, y1, y2, y3⟩ := HK5.out.load
      go_wp2_with fail
      refine HSa.out.mono ?_
      rintro e w6 ⟨rfl, hq6⟩
      have HQ6 := Lib.hid (HQ5.out.trans hq6)
      clear hq6 x0 x1 x2 x3 y0 y1 y2 y3
      go_wp2_with fail
      go_meet
      exact HQ6
    · have g1 : decide (rc = 0) = false := by simpa using hrc
      go_wp2_with fail
      go_meet
      exact HQ3
  clear HB3 HQ3 HB2 HQ2 HRow2 HB1 HQ1 HR
  have HQc := hcut
  have HPs := Lib.hid (parse_any s wc (HU.out _ HQc.out))
  clear hcut
  cases hps : parseJ s with
  | error ce =>
    go_wp2_with fail
    refine HPs.out.mono ?_
    rintro e w4 ⟨hq4, hp⟩
    rw [hps] at hp
    obtain ⟨bf, rfl, _⟩ := hp
    have HQ4 := Lib.hid (HQc.out.trans hq4)
    have HIn0 := Lib.hid (info_sz zeroJ (.slice none 0 0) (.slice none 0 0))
    have HOne0 := Lib.hid (cellJ_one (j := zeroJ) ⟨none, 0, 0, rfl⟩ ⟨none, 0, 0, rfl⟩)
    have HX : Hid (Q w ((w4.alloc (.cells #[.int .i64 0, .string ⟨#[]⟩, .slice none 0 0, .slice none 0 0] 40)).setRow w4.heap.size zeroC.toArray)) := Lib.hid (HQ4.out.trans (((Q.refl w4).alloc _).setRow (Nat.le_refl _) _))
    clear hq4 hps HPs
    go_wp2_with (refine wpList_store_row rfl 40 (.tmp 10) (.tmp 42) rfl w4.heap.size zeroC.toArray rfl rfl 40 _ (heap_alloc_new w4 _) HIn0.out rfl HOne0.out ?_)
    go_ret
    exact ⟨rfl, HX.out⟩
  | ok v =>
    have HRt := Lib.hid (rt_parse hps)
    have HBg := Lib.hid (bigJ_mono (M := 1100000) (by decide) _ (parse_big hps))
    go_wp2_with fail
    refine HPs.out.mono ?_
    rintro e w4 ⟨hq4, hp⟩
    rw [hps] at hp
    obtain ⟨un, uk, rfl, hj4⟩ := hp
    have hjv4 := hj4.read
    have HQ4 := Lib.hid (HQc.out.trans hq4)
    obtain ⟨⟨A3, n3, c3n, rfl⟩, A4, n4, c4n, rfl⟩ := jv_slices hjv4
    have HJ4 := Lib.hid hjv4
    have HIn4 := Lib.hid (info_sz v (.slice A3 n3 c3n) (.slice A4 n4 c4n))
    have HOne4 := Lib.hid (jv_one hjv4)
    clear hq4 hj4 hjv4 hps HPs
    go_upto_region 8 with (refine wpList_store_row rfl 40 (.tmp 10) (.tmp 42) rfl w4.heap.size (cellJ v (.slice A3 n3 c3n) (.slice A4 n4 c4n)).toArray rfl rfl 40 _ (heap_alloc_new w4 _) HIn4.out rfl HOne4.out ?_)
    obtain ⟨W5, N1, hN1, hW5, hq5, hb5⟩ := box_new HJ4.out
    rw [hN1] at hW5
    simp only [Act.put, hN1, hW5]
    have HK5 := Lib.hid hb5
    have HQ5 := Lib.hid (HQ4.out.trans hq5)
    have HRow5 := Lib.hid hb5.1
    have hWr := Write_any v W5 _ _ HK5.out.2 (HU.out _ HQ5.out) HBg.out
    rw [write_ok HRt.out.1 HRt.out.2] at hWr
    have HWr := Lib.hid hWr
    clear hN1 hW5 hq5 hb5 hWr
    go_upto_region 10 with (fail)
    go_wp2_with (refine wpList_load_row rfl 40 (.tmp 10) rfl N1 rfl 40 (cellJ v (.slice A3 n3 c3n) (.slice A4 n4 c4n)).toArray (0, 0) _ HRow5.out Tryd.underlying40 rfl HIn4.out ?_; simp only [Act.put, List.setIfInBounds_toArray, List.set_cons_succ, List.set_cons_zero])
    refine HWr.out.mono ?_
    rintro e w6 ⟨rfl, hq6⟩
    have HQ6 := Lib.hid (HQ5.out.trans hq6)
    have HK6 := Lib.hid (HK5.out.q hq6)
    clear hq6 HRow5 HWr
    by_cases hlen : 8000 < (writeJ v).length
    · rw [if_pos hlen]
      clear hlen
      go_wp2_with fail
      go_ret
      exact ⟨rfl, HQ6.out⟩
    · rw [if_neg hlen]
      have hWv : writeR v = (writeJ v, 0) := by rw [write_ok HRt.out.1 HRt.out.2, if_neg hlen]
      have hbp := back_parse hWv
      have hln : (writeJ v).length ≤ 8000 := by omega
      obtain ⟨u, hu⟩ : ∃ u, writeJ v = u := ⟨_, rfl⟩
      rw [hu] at hWv hbp hln
      rw [hu]
      have HWv := Lib.hid hWv
      have HLn := Lib.hid hln
      have HPu := Lib.hid (parse_any u w6 (HU.out _ HQ6.out))
      clear hlen hWv hu hln
      go_wp2_with fail
      refine HPu.out.mono ?_
      rintro e w7 ⟨hq7, hp⟩
      rw [hbp] at hp
      obtain ⟨un, uk, rfl, hj7⟩ := hp
      have hjv7 := hj7.read
      have HQ7 := Lib.hid (HQ6.out.trans hq7)
      have HK7 := Lib.hid (HK6.out.q hq7)
      obtain ⟨⟨A5, n5, c5n, rfl⟩, A6, n6, c6n, rfl⟩ := jv_slices hjv7
      have HJ7 := Lib.hid hjv7
      have HIn7 := Lib.hid (info_sz v (.slice A5 n5 c5n) (.slice A6 n6 c6n))
      have HOne7 := Lib.hid (jv_one hjv7)
      clear hq7 hj7 hjv7 hbp HPu
      go_upto_region 14 with (refine wpList_store_row rfl 40 (.tmp 14) (.tmp 58) rfl w7.heap.size (cellJ v (.slice A5 n5 c5n) (.slice A6 n6 c6n)).toArray rfl rfl 40 _ (heap_alloc_new w7 _) HIn7.out rfl HOne7.out ?_)
      obtain ⟨W8, N2, hN2, hW8, hq8, hb8⟩ := box_new HJ7.out
      rw [hN2] at hW8
      simp only [Act.put, hN2, hW8]
      have HL8 := Lib.hid hb8
      have HK8 := Lib.hid (HK7.out.q hq8)
      have HQ8 := Lib.hid (HQ7.out.trans hq8)
      have HRow8 := Lib.hid hb8.1
      have hWr := Write_any v W8 _ _ HL8.out.2 (HU.out _ HQ8.out) HBg.out
      rw [HWv.out] at hWr
      have HWr := Lib.hid hWr
      clear hN2 hW8 hq8 hb8 hWr
      go_wp2_with (refine wpList_load_row rfl 40 (.tmp 14) rfl N2 rfl 40 (cellJ v (.slice A5 n5 c5n) (.slice A6 n6 c6n)).toArray (0, 0) _ HRow8.out Tryd.underlying40 rfl HIn7.out ?_; simp only [Act.put, List.setIfInBounds_toArray, List.set_cons_succ, List.set_cons_zero])
      refine HWr.out.mono ?_
      rintro e w9 ⟨rfl, hq9⟩
      have HQ9 := Lib.hid (HQ8.out.trans hq9)
      have HK9 := Lib.hid (HK8.out.q hq9)
      have HL9 := Lib.hid (HL8.out.q hq9)
      have hSa := Same_any v v w9 _ _ _ _ HK9.out.2 HL9.out.2 (HU.out _ HQ9.out) (bigJ_mono (by decide) _ HBg.out) (bigJ_mono (by decide) _ HBg.out)
      rw [same_refl HRt.out.1] at hSa
      have HSa := Lib.hid hSa
      have g9 : decide ((u.length : Int) ≤ 8000) = true := by have := HLn.out; simp; omega
      clear hq9 hSa HRow8 HWr
      obtain ⟨k, jt, ns, ks⟩ := v
      obtain ⟨x0, x1, x2, x3⟩ := HK9.out.load
      obtain ⟨y0, y1, y2, y3⟩ := HL9.out.load
      go_wp2_with fail
      refine HSa.out.mono ?_
      rintro e w10 ⟨rfl, hq10⟩
      have HX := Lib.hid (HQ9.out.trans hq10)
      clear hq10 x0 x1 x2 x3 y0 y1 y2 y3
      go_wp2_with fail
      go_ret
      exact ⟨rfl, HX.out⟩
end Go.Proofs.YtlhhiiemojhjdaaDoor
/- A value that came in, opened. -/
set_option linter.unusedVariables false
namespace Go.Proofs.YtlhhiiemojhjdaaDoor
open Go Go.RowKit Go.ChangeShapes Go.WideShapes Go.Deep
theorem list4 {α : Type} {l : List α} (h : l.length = 4) : ∃ a b c d, l = [a, b, c, d] := by
  match l, h with
  | [a, b, c, d], _ => exact ⟨a, b, c, d, rfl⟩
theorem strB (s : ByteArray) : Value.string s = .string ⟨s.data.toList.toArray⟩ := by cases s; rfl
theorem spot_none {W : World} {a : Addr} {v : Value} (h : W.cell? a = some v) : a.spot = none := by
  obtain ⟨g, off, spot⟩ := a
  unfold World.cell? at h
  simp only at h
  split at h
  · cases spot with
    | none => rfl
    | some s => simp at h
  · cases h
theorem add_of {g off : Nat} (n : Nat) : (⟨g, off, none⟩ : Addr).add n = ⟨g, off + n, none⟩ := add_off g off n
section
variable {H : Type} {enc : TypeId × Value → H} {W : World} {hd : Bool}
theorem bulkAll {d : DataW H} {l : List (DataW H)} (h : d ∈ l) : Rows.uptoBulk d ≤ Rows.uptoBulkAll l := by
  induction l with
  | nil => cases h
  | cons a r ih =>
    simp only [Rows.uptoBulkAll]
    rcases List.mem_cons.1 h with h | h
    · subst h; omega
    · have := ih h; omega
theorem str_in {fuel : Nat} {c : Value} {y : DataW H × List MemPlace} (h : DataW.trod enc Tryd.prog W 0 (fun _ => true) hd fuel 9 [c] = some y) : ∃ s : Txt, c = .string ⟨s.toArray⟩ ∧ y.1 = .lit (.string s) := by
  obtain ⟨s, e, e2, _⟩ := DataW.trod_string Tryd.underlying9 h
  have e' : c = .string s := by simpa using e
  exact ⟨s.data.toList, e'.trans (strB s), by rw [e2]⟩
theorem str_bulk (s : Txt) : Rows.uptoBulk (DataW.lit (H := H) (.string s)) = s.length + 1 := by simp [Rows.uptoBulk]
theorem names_in {fuel : Nat} {c : Value} {y : DataW H × List MemPlace} (h : DataW.trod enc Tryd.prog W 0 (fun _ => true) hd fuel 23 [c] = some y) :
    ∃ ns : List Txt, NsV W c ns ∧ ∀ n ∈ ns, n.length ≤ Rows.uptoBulk y.1 := by
  have hc : Tryd.prog.cellsOf 9 = 1 := by kernel_rfl
  rcases open_slice Tryd.underlying23 h with ⟨hcs, hx⟩ | ⟨a, len, cap, m, n, D, Pl, hcs, _, hl, hm, hmm, rfl, hcell⟩
  · simp at hcs
    subst hcs
    exact ⟨[], ⟨none, 0, rfl, by simp, by omega, fun h => absurd h (by simp)⟩, fun n hn => by cases hn⟩
  · simp at hcs
    subst hcs
    simp only [if_true] at hmm
    subst hmm
    rw [hc] at hcell
    obtain ⟨p, hp⟩ := choose_lt (α := Txt) (p := fun i q => W.cell? (a.add i) = some (.string ⟨q.toArray⟩) ∧ D i = .lit (.string q)) (fun i hi => by
      obtain ⟨cs', h1, h2⟩ := hcell i hi
      obtain ⟨_, hlen, hcc⟩ := World.cells?_some h1
      obtain ⟨c, rfl⟩ := List.length_eq_one_iff.1 hlen
      obtain ⟨s, rfl, hs⟩ := str_in h2
      refine ⟨s, ?_, hs⟩
      have := hcc 0 (by omega)
      rw [add_add] at this
      simpa using this)
    refine ⟨(List.range len).map p, ⟨some a, m, by simp, by simp; omega, by unfold maxLen at hm; simpa using hm, fun h0 => ?_⟩, fun q hq => ?_⟩
    · have h0' : 0 < len := by simpa using h0
      have h00 := (hp 0 (by omega)).1
      have ea : a.add 0 = a := by simp [Addr.add]
      rw [ea] at h00
      have hsp := spot_none h00
      obtain ⟨g, off, spot⟩ := a
      simp only at hsp
      subst hsp
      refine ⟨g, off, rfl, fun i hi => ?_⟩
      have hi' : i < len := by simpa using hi
      have h1 := (hp i (by omega)).1
      rw [add_off] at h1
      have e : gL ((List.range len).map p) i = p i := by simp [gL, List.getD, hi']
      rw [e]; exact h1
    · obtain ⟨i, hi, rfl⟩ := List.mem_map.1 hq
      have hi' : i < len := by simpa using hi
      have h1 := bulkAll (H := H) (List.mem_map.2 ⟨i, hi, rfl⟩ : D i ∈ (List.range len).map D)
      rw [(hp i (by omega)).2, str_bulk] at h1
      simp only [Rows.uptoBulk]
      omega
theorem jk_list (j : Nat → JsonD) (vn vk : Nat → Value) : ∀ (l : List Nat), (∀ i ∈ l, JV W (j i) (vn i) (vk i)) → JK W (l.map j) (l.flatMap fun i => cellJ (j i) (vn i) (vk i))
  | [], _ => by rw [List.map_nil, List.flatMap_nil, JK]
  | i :: r, h => by
    rw [List.map_cons, List.flatMap_cons, JK]
    exact ⟨_, _, _, rfl, h i (by simp), jk_list j vn vk r (fun k hk => h k (by simp [hk]))⟩
theorem flat4 (f : Nat → List Value) (hf : ∀ i, (f i).length = 4) : ∀ (n i : Nat) (u : Value), ((List.range n).flatMap f)[i]? = some u → i / 4 < n ∧ (f (i / 4))[i % 4]? = some u
  | 0, i, u, h => by simp at h
  | n + 1, i, u, h => by
    have hl : ∀ m, ((List.range m).flatMap f).length = m * 4 := by
      intro m
      induction m with
      | zero => rfl
      | succ m ih => rw [List.range_succ, List.flatMap_append, List.length_append, ih]; simp [hf]; omega
    rw [List.range_succ, List.flatMap_append] at h
    by_cases hi : i < n * 4
    · rw [List.getElem?_append_left (by rw [hl]; exact hi)] at h
      have := flat4 f hf n i u h
      exact ⟨by omega, this.2⟩
    · rw [List.getElem?_append_right (by rw [hl]; omega), hl] at h
      simp only [List.flatMap_cons, List.flatMap_nil, List.append_nil] at h
      have h4 := (List.getElem?_eq_some_iff.1 h).1
      rw [hf] at h4
      have e1 : i / 4 = n := by omega
      have e2 : i % 4 = i - n * 4 := by omega
      rw [e1, e2]
      exact ⟨by omega, h⟩
theorem trod_struct4 {P : Program} {w : World} {base : Nat} {spare : Nat → Bool} {held : Bool} {t : TypeId} {f0 f1 f2 f3 : Field} {fuel : Nat} {cs : List Value} {x : DataW H × List MemPlace} (ht : P.underlying t = some (.struct #[f0, f1, f2, f3])) (h : DataW.trod enc P w base spare held fuel t cs = some x) :
    ∃ y0 y1 y2 y3 n, x.1 = .agg [y0.1, y1.1, y2.1, y3.1] ∧ cs.length = P.cellsOf t ∧ DataW.trod enc P w base spare held n f0.type ((cs.drop f0.offset).take (P.cellsOf f0.type)) = some y0 ∧
      DataW.trod enc P w base spare held n f1.type ((cs.drop f1.offset).take (P.cellsOf f1.type)) = some y1 ∧ DataW.trod enc P w base spare held n f2.type ((cs.drop f2.offset).take (P.cellsOf f2.type)) = some y2 ∧
      DataW.trod enc P w base spare held n f3.type ((cs.drop f3.offset).take (P.cellsOf f3.type)) = some y3 := by
  obtain ⟨xs, n, _, rfl, hl, hlen, hf⟩ := DataW.trod_struct ht h
  obtain ⟨y0, y1, y2, y3, rfl⟩ := list4 (hlen.trans rfl)
  exact ⟨y0, y1, y2, y3, n, by simp, hl, by simpa using hf 0 f0 rfl, by simpa using hf 1 f1 rfl, by simpa using hf 2 f2 rfl, by simpa using hf 3 f3 rfl⟩
theorem json_in : ∀ (N : Nat) (fuel : Nat) (cs : List Value) (y : DataW H × List MemPlace), DataW.trod enc Tryd.prog W 0 (fun _ => true) hd fuel 40 cs = some y → Rows.uptoBulk y.1 ≤ N →
    ∃ j vn vk, cs = cellJ j vn vk ∧ JV W j vn vk ∧ bigJ N j
  | 0, fuel, cs, y, h, hN => by
    obtain ⟨y0, y1, y2, y3, n, hx, _⟩ := trod_struct4 Tryd.underlying40 h
    rw [hx] at hN
    simp [Rows.uptoBulk] at hN
  | N + 1, fuel, cs, y, h, hN => by
    obtain ⟨y0, y1, y2, y3, n, hx, hl, g0, g1, g2, g3⟩ := trod_struct4 Tryd.underlying40 h
    have hc : Tryd.prog.cellsOf 40 = 4 := by kernel_rfl
    have c0 : Tryd.prog.cellsOf 3 = 1 := by kernel_rfl
    have c1 : Tryd.prog.cellsOf 9 = 1 := by kernel_rfl
    have c2 : Tryd.prog.cellsOf 23 = 1 := by kernel_rfl
    have c3 : Tryd.prog.cellsOf 38 = 1 := by kernel_rfl
    rw [hc] at hl
    obtain ⟨v0, v1, v2, v3, rfl⟩ := list4 hl
    simp only [c0, c1, c2, c3, List.drop_zero, List.drop_succ_cons, List.take_succ_cons, List.take_zero] at g0 g1 g2 g3
    rw [hx] at hN
    simp only [Rows.uptoBulk, Rows.uptoBulkAll] at hN
    obtain ⟨t, rfl, x1⟩ := str_in g1
    rw [x1, str_bulk] at hN
    obtain ⟨ns, hns, hnb⟩ := names_in g2
    have hk : ∃ k, v0 = .int .i64 k := by
      obtain ⟨k, e, _⟩ := DataW.trod_int Tryd.underlying3 g0
      exact ⟨k, by simpa using e⟩
    obtain ⟨k, rfl⟩ := hk
    have hkids : ∃ ks, (∃ B c, v3 = .slice B ks.length c ∧ ks.length ≤ c ∧ c ≤ 9223372036854775807 ∧ (0 < ks.length → ∃ g off cells, B = some ⟨g, off, none⟩ ∧ (∀ i u, cells[i]? = some u → W.cell? ⟨g, off + i, none⟩ = some u) ∧ JK W ks cells)) ∧ bigKs N ks := by
      rcases open_slice Tryd.underlying38 g3 with ⟨hcs, hx⟩ | ⟨a, len, cap, m, n', D, Pl, hcs, _, hlc, hm, hmm, hy, hcell⟩
      · simp at hcs
        subst hcs
        exact ⟨[], ⟨none, 0, rfl, by simp, by omega, fun h => absurd h (by simp)⟩, by rw [bigKs]; trivial⟩
      · simp at hcs
        subst hcs
        simp only [if_true] at hmm
        subst hmm
        rw [hc] at hcell
        rw [hy] at hN
        simp only [Rows.uptoBulk] at hN
        obtain ⟨p, hp⟩ := choose_lt (α := JsonD × Value × Value) (p := fun i q => i < len → (∀ k v, (cellJ q.1 q.2.1 q.2.2)[k]? = some v → W.cell? ((a.add (i * 4)).add k) = some v) ∧ JV W q.1 q.2.1 q.2.2 ∧ bigJ N q.1) (fun i (hi : i < m) => by
          by_cases hil : i < len
          · obtain ⟨cs', h1, h2⟩ := hcell i hi
            obtain ⟨_, hlen, hcc⟩ := World.cells?_some h1
            have hbi := bulkAll (H := H) (List.mem_map.2 ⟨i, by simpa using hil, rfl⟩ : D i ∈ (List.range len).map D)
            obtain ⟨j, vn, vk, rfl, hj, hb⟩ := json_in N n' cs' _ h2 (by show Rows.uptoBulk (D i) ≤ N; omega)
            refine ⟨(j, vn, vk), fun _ => ⟨fun k v hk => ?_, hj, hb⟩⟩
            have hk4 : k < 4 := by have := (List.getElem?_eq_some_iff.1 hk).1; exact this
            rw [hcc k hk4]; exact hk
          · exact ⟨(zeroJ, .slice none 0 0, .slice none 0 0), fun h => absurd h hil⟩)
        refine ⟨(List.range len).map (fun i => (p i).1), ⟨some a, m, by simp, by simp; omega, by unfold maxLen at hm; simpa using hm, fun h0 => ?_⟩, ?_⟩
        · have h0' : 0 < len := by simpa using h0
          have h00 := (hp 0 (by omega) h0').1 0 _ rfl
          rw [Nat.zero_mul] at h00
          have ea : (a.add 0).add 0 = a := by simp [Addr.add]
          rw [ea] at h00
          have hsp := spot_none h00
          obtain ⟨g, off, spot⟩ := a
          simp only at hsp
          subst hsp
          refine ⟨g, off, (List.range len).flatMap fun i => cellJ (p i).1 (p i).2.1 (p i).2.2, rfl, fun i u hu => ?_, jk_list (fun i => (p i).1) (fun i => (p i).2.1) (fun i => (p i).2.2) _ (fun i hi => (hp i (by have := List.mem_range.1 hi; omega) (List.mem_range.1 hi)).2.1)⟩
          obtain ⟨h1, h2⟩ := flat4 (fun i => cellJ (p i).1 (p i).2.1 (p i).2.2) (fun i => jsonC_len _ _ _ _) len i u hu
          have h3 := (hp (i / 4) (by omega) h1).1 (i % 4) u h2
          rw [add_off, add_off] at h3
          rw [show off + i = off + i / 4 * 4 + i % 4 by omega]; exact h3
        · rw [bigKs_iff]
          intro j hj
          obtain ⟨i, hi, rfl⟩ := List.mem_map.1 hj
          exact (hp i (by have := List.mem_range.1 hi; omega) (List.mem_range.1 hi)).2.2
    obtain ⟨ks, hks, hkb⟩ := hkids
    refine ⟨.mk k t ns ks, v2, v3, rfl, by rw [JV]; exact ⟨hns, hks⟩, ?_⟩
    rw [bigJ]
    refine ⟨by omega, fun n hn => by have := hnb n hn; omega, ?_⟩
    rw [bigKs_iff] at hkb ⊢
    exact fun j hj => bigJ_mono (by omega) j (hkb j hj)
set_option maxRecDepth 100000 in
/-- A value that is handed in. -/
theorem json_open {N b0 : Nat} {v : Value} {d : DataW H} {q : List MemPlace} (hv : Value.okWide Tryd.prog W .any b0 40 v) (h : DataW.Trod enc Tryd.prog W 0 (fun _ => true) hd 40 v d q) (hB : Rows.uptoBulk d ≤ N) :
    ∃ j vn vk, v = .agg (cellJ j vn vk).toArray ∧ JV W j vn vk ∧ bigJ N j := by
  obtain ⟨cs, rfl, hsz⟩ := okWide_struct Tryd.underlying40 hv
  obtain ⟨fuel, hf⟩ := h
  obtain ⟨j, vn, vk, e, h1, h2⟩ := json_in N fuel _ _ hf hB
  refine ⟨j, vn, vk, ?_, h1, h2⟩
  have e2 : cs = (cellJ j vn vk).toArray := by
    rw [← e]; simp [Value.cells]
  rw [e2]
end
end Go.Proofs.YtlhhiiemojhjdaaDoor
/- Law 14: Parse and told, whatever comes; JsonBlanks. -/
set_option linter.unusedVariables false
set_option linter.unusedSimpArgs false
namespace Go.Proofs.YtlhhiiemojhjdaaDoor
open Go Go.RowKit
def pV (s : Txt) : JsonD := match parseJ s with
  | .ok v => v
  | .error _ => zeroJ
def toldN (s : Txt) : Int × Int := match parseJ s with
  | .ok _ => (0, 0)
  | .error ca => ((ca.1 : Nat), (ca.2 : Nat))
def ErrV (s : Txt) (W : World) (ev : Value) : Prop := match parseJ s with
  | .ok _ => ev = .nilIface
  | .error ca => ∃ bf, ev = .iface 76 (.pointer (some ⟨bf, 0, none⟩)) ∧ FaultJ W bf ca.1 (ca.2 : Nat)
theorem ErrV.q {s : Txt} {W W' : World} {ev : Value} (h : ErrV s W ev) (hq : Q W W') : ErrV s W' ev := by
  unfold ErrV at h ⊢
  cases hp : parseJ s with
  | ok v => rw [hp] at h; exact h
  | error ca =>
    rw [hp] at h
    obtain ⟨bf, e, hf⟩ := h
    exact ⟨bf, e, hf.q hq⟩
theorem parse_u (s : Txt) (w : World) (hu : UT w) : Calls Tryd.prog 21 #[.string ⟨s.toArray⟩] w fun e w' => Q w w' ∧ ∃ A1 n1 c1 A2 n2 c2 ev, e = .returned (.tuple #[.agg (cellJ (pV s) (.slice A1 n1 c1) (.slice A2 n2 c2)).toArray, ev]) ∧ JV w' (pV s) (.slice A1 n1 c1) (.slice A2 n2 c2) ∧ ErrV s w' ev := by
  refine (parse_any s w hu).mono ?_
  rintro e w' ⟨hq, h⟩
  refine ⟨hq, ?_⟩
  unfold pV ErrV
  cases hp : parseJ s with
  | ok v =>
    rw [hp] at h
    obtain ⟨vn, vk, rfl, hj⟩ := h
    have hv := hj.read
    obtain ⟨⟨A1, n1, c1, rfl⟩, A2, n2, c2, rfl⟩ := jv_slices hv
    exact ⟨A1, n1, c1, A2, n2, c2, _, rfl, hv, rfl⟩
  | error ca =>
    rw [hp] at h
    obtain ⟨bf, rfl, hf⟩ := h
    exact ⟨none, 0, 0, none, 0, 0, _, rfl, (jo_nil (w := w') (k := 0) (t := []) (Nat.le_refl 0)).read, bf, rfl, hf⟩
theorem told_u (s : Txt) (w : World) (ev : Value) (h : ErrV s w ev) : Calls Tryd.prog 23 #[ev] w fun e w' => e = .returned (.tuple #[.int .i64 (toldN s).1, .int .i64 (toldN s).2, .bool true]) ∧ Q w w' := by
  unfold ErrV at h
  unfold toldN
  cases hp : parseJ s with
  | ok v => rw [hp] at h; subst h; exact told_nil w
  | error ca =>
    rw [hp] at h
    obtain ⟨bf, rfl, hf⟩ := h
    obtain ⟨c, a⟩ := ca
    exact told_fault w bf c a hf (by have := parse_code hp; omega)
theorem pV_big (s : Txt) : bigJ 1100000 (pV s) := by
  unfold pV
  cases hp : parseJ s with
  | ok v => exact bigJ_mono (by decide) _ (parse_big hp)
  | error ca => unfold zeroJ; simp [bigJ, bigKs]
/-- So many blanks, one after another. -/
def blk : Nat → Txt
  | 0 => []
  | i + 1 => blk i ++ sub [32, 9, 10, 13] (i % 4) (i % 4 + 1)
theorem blk_piece : ∀ m : Fin 4, (sub [32, 9, 10, 13] m.val (m.val + 1)).length = 1 ∧ (sub [32, 9, 10, 13] m.val (m.val + 1)).all wsB = true := by decide
theorem blk_len : ∀ i, (blk i).length = i
  | 0 => rfl
  | i + 1 => by
    rw [blk, List.length_append, blk_len i, (blk_piece ⟨i % 4, Nat.mod_lt _ (by decide)⟩).1]
theorem blk_ws : ∀ i, wsAll (blk i)
  | 0 => by unfold wsAll; simp [blk]
  | i + 1 => by
    have h1 := blk_ws i
    have h2 := (blk_piece ⟨i % 4, Nat.mod_lt _ (by decide)⟩).2
    unfold wsAll at h1 ⊢
    rw [blk]
    intro b hb
    rcases List.mem_append.1 hb with hb | hb
    · exact h1 b hb
    · exact List.all_eq_true.1 h2 b hb
theorem blanks_told (s : Txt) (n : Nat) (hl : s.length ≤ 7000) (hn : n ≤ 100) : ((toldN s).1 = 0 → (toldN (blk n ++ s ++ blk n)).1 = 0 ∧ sameF (pV s) (pV (blk n ++ s ++ blk n)) = true) ∧
    ((toldN s).1 ≠ 0 → (toldN (blk n ++ s ++ blk n)).1 = (toldN s).1 ∧ ((toldN (blk n ++ s ++ blk n)).2 = (toldN s).2 + n ∨ (toldN s).2 = s.length)) ∧ 0 ≤ (toldN s).2 ∧ (toldN s).2 ≤ 7000 := by
  have hb := blanks_law (blk n) s (blk_ws n)
  have hl2 : (blk n ++ s ++ blk n).length ≤ 8000 := by simp [blk_len]; omega
  have e1 := parse_small (s := s) (by omega)
  have e2 := parse_small hl2
  unfold toldN pV
  cases hp : parseJ s with
  | ok v =>
    have hp' := hp
    rw [e1] at hp'
    rw [e2, hb.1 v hp']
    exact ⟨fun _ => ⟨rfl, same_refl (rt_parse hp).1⟩, fun h => absurd rfl h, by simp, by simp⟩
  | error ca =>
    obtain ⟨c, a⟩ := ca
    have hc := parse_code hp
    rw [e1] at hp
    obtain ⟨h1, q, h2, h3⟩ := hb.2 c a hp
    rw [e2, h2]
    refine ⟨fun h => ?_, fun _ => ⟨rfl, ?_⟩, by simp, by simp; omega⟩
    · have h : ((c : Nat) : Int) = 0 := h
      omega
    · show ((q : Nat) : Int) = (a : Nat) + (n : Int) ∨ ((a : Nat) : Int) = s.length
      rw [blk_len] at h3
      omega
theorem parse_as {s1 s2 : Txt} {w : World} {R : Ending → World → Prop} (h : Calls Tryd.prog 21 #[.string ⟨s2.toArray⟩] w R) (e : s1 = s2) : Calls Tryd.prog 21 #[.string ⟨s1.toArray⟩] w R := by subst e; exact h
set_option maxRecDepth 100000 in
theorem JsonBlanks_any (s : Txt) (n : Int) (w : World) (hu : UT w) :
    Calls Tryd.prog 8 #[.string ⟨s.toArray⟩, .int .i64 n] w fun e w' => e = .returned (.bool true) ∧ Q w w' := by
  have HU : Hid (∀ W, Q w W → UT W) := Lib.hid (fun W hq => Utf8Tabs_below hu hq)
  have HEx := Lib.hid (examples14 w hu)
  clear hu
  go_enter Tryd.func8, Tryd.ntmps8
  go_wp2_with fail
  refine HEx.out.mono ?_
  rintro e w1 ⟨rfl, hq1⟩
  have HQ1 := Lib.hid hq1
  clear hq1 HEx
  by_cases hin : 0 ≤ n ∧ n ≤ 100 ∧ s.length ≤ 7000
  rotate_left
  · by_cases h1 : n < 0
    · have g1 : decide (n < 0) = true := by simpa using h1
      go_wp2_with fail
      go_ret
      exact ⟨rfl, HQ1.out⟩
    · have g1 : decide (n < 0) = false := by simpa using h1
      by_cases h2 : 100 < n
      · have g2 : decide (100 < n) = true := by simpa using h2
        clear h1 h2
        go_wp2_with fail
        go_ret
        exact ⟨rfl, HQ1.out⟩
      · have g2 : decide (100 < n) = false := by simpa using h2
        have g3 : decide ((7000 : Int) < (s.length : Int)) = true := by simp; omega
        clear h1 h2 hin
        go_wp2_with fail
        go_ret
        exact ⟨rfl, HQ1.out⟩
  obtain ⟨h1, h2, h3⟩ := hin
  obtain ⟨m, rfl⟩ : ∃ m : Nat, n = (m : Int) := ⟨n.toNat, by omega⟩
  have hm : m ≤ 100 := by omega
  have g1 : decide ((m : Int) < 0) = false := by simp
  have g2 : decide ((100 : Int) < (m : Int)) = false := by simp; omega
  have g3 : decide ((7000 : Int) < (s.length : Int)) = false := by simp; omega
  have H3 := Lib.hid h3
  have HLen := Lib.hid (fun i => blk_len i)
  clear h1 h2 h3
  go_upto_region 6 with (fail)
  clear g1 g2 g3
  go_loopw [6, 7] (fun t i wx => ∃ k : Nat, k ≤ m ∧ t = .string ⟨(blk k).toArray⟩ ∧ i = .int .i64 k ∧ Hid (Q w wx)) (fun t i _ => m - (intOf i).toNat)
  case atStart => exact ⟨0, Nat.zero_le _, rfl, rfl, HQ1⟩
  case round =>
    obtain ⟨k, hk, rfl, rfl, HI⟩ := hrel
    rename World => wa
    by_cases hlt : k < m
    · have hd : decide (k < m) = true := by simpa using hlt
      have hbk : (blk k).length ≤ 100 := by rw [HLen.out]; omega
      go_wp2_with fail
      go_roundw
      case rel => exact ⟨k + 1, by omega, by simp [blk], by go_num, HI⟩
      case measure => simp [intOf]; omega
    · have hd : decide (k < m) = false := by simpa using hlt
      obtain rfl : k = m := by omega
      have HTold := Lib.hid (blanks_told s k H3.out hm)
      have HP1 := Lib.hid (parse_u s wa (HU.out _ HI.out))
      clear hlt hk
      go_wp2_with fail
      refine HP1.out.mono ?_
      rintro e w2 ⟨hq2, A1, n1, c1, A2, n2, c2, ev1, rfl, hj2, he2⟩
      obtain ⟨v1, hv1⟩ : ∃ v, pV s = v := ⟨_, rfl⟩
      have hbg1 := pV_big s
      rw [hv1] at hj2 hbg1 HTold
      rw [hv1]
      have HBg1 := Lib.hid (bigJ_mono (M := 9223372036854775807) (by decide) _ hbg1)
      have HQ2 := Lib.hid (HI.out.trans hq2)
      have HJ2 := Lib.hid hj2
      have HE2 := Lib.hid he2
      have HIn2 := Lib.hid (info_sz v1 (.slice A1 n1 c1) (.slice A2 n2 c2))
      have HOne2 := Lib.hid (jv_one hj2)
      clear hq2 hj2 he2 hv1 hbg1 HP1
      go_upto_region 10 with (refine wpList_store_row rfl 40 (.tmp 8) (.tmp 47) rfl w2.heap.size (cellJ v1 (.slice A1 n1 c1) (.slice A2 n2 c2)).toArray rfl rfl 40 _ (heap_alloc_new w2 _) HIn2.out rfl HOne2.out ?_)
      obtain ⟨W3, N1, hN1, hW3, hq3, hb3⟩ := box_new HJ2.out
      rw [hN1] at hW3
      simp only [Act.put, hN1, hW3]
      have HB3 := Lib.hid hb3
      have HQ3 := Lib.hid (HQ2.out.trans hq3)
      have HE3 := Lib.hid (HE2.out.q hq3)
      have HP2 := Lib.hid (parse_u (blk k ++ s ++ blk k) W3 (HU.out _ HQ3.out))
      have hbk : (blk k).length ≤ 100 := by rw [HLen.out]; omega
      have hs3 : s.length ≤ 7000 := H3.out
      obtain ⟨S2, hS2⟩ : ∃ S2, blk k ++ s ++ blk k = S2 := ⟨_, rfl⟩
      rw [hS2] at HP2 HTold
      have HS2 := Lib.hid hS2
      clear hN1 hW3 hq3 hb3 hS2
      go_wp2_with fail
      refine (parse_as HP2.out (by rw [← HS2.out]; simp)).mono ?_
      rintro e w4 ⟨hq4, A3, n3, c3, A4, n4, c4, ev2, rfl, hj4, he4⟩
      clear hbk hs3
      obtain ⟨v2, hv2⟩ : ∃ v, pV S2 = v := ⟨_, rfl⟩
      have hbg2 := pV_big S2
      rw [hv2] at hj4 hbg2 HTold
      rw [hv2]
      have HBg2 := Lib.hid (bigJ_mono (M := 9223372036854775807) (by decide) _ hbg2)
      have HQ4 := Lib.hid (HQ3.out.trans hq4)
      have HB4 := Lib.hid (HB3.out.q hq4)
      have HE4 := Lib.hid (HE3.out.q hq4)
      have HF4 := Lib.hid he4
      have HJ4 := Lib.hid hj4
      have HIn4 := Lib.hid (info_sz v2 (.slice A3 n3 c3) (.slice A4 n4 c4))
      have HOne4 := Lib.hid (jv_one hj4)
      clear hq4 hj4 he4 hv2 hbg2 HP2
      go_upto_region 11 with (refine wpList_store_row rfl 40 (.tmp 10) (.tmp 56) rfl w4.heap.size (cellJ v2 (.slice A3 n3 c3) (.slice A4 n4 c4)).toArray rfl rfl 40 _ (heap_alloc_new w4 _) HIn4.out rfl HOne4.out ?_)
      obtain ⟨W5, N2, hN2, hW5, hq5, hb5⟩ := box_new HJ4.out
      rw [hN2] at hW5
      simp only [Act.put, hN2, hW5]
      have HQ5 := Lib.hid (HQ4.out.trans hq5)
      have HB5 := Lib.hid (HB4.out.q hq5)
      have HK5 := Lib.hid hb5
      have HF5 := Lib.hid (HF4.out.q hq5)
      have HT1 := Lib.hid (told_u s W5 ev1 (HE4.out.q hq5))
      obtain ⟨T1, hT1⟩ : ∃ T, toldN s = T := ⟨_, rfl⟩
      obtain ⟨T2, hT2⟩ : ∃ T, toldN S2 = T := ⟨_, rfl⟩
      rw [hT1] at HT1 HTold
      rw [hT2] at HTold
      have HT2 := Lib.hid hT2
      obtain ⟨e1, p1⟩ := T1
      obtain ⟨e2, p2⟩ := T2
      clear hN2 hW5 hq5 hb5 hT1 hT2
      go_wp2_with fail
      refine HT1.out.mono ?_
      rintro e w6 ⟨rfl, hq6⟩
      have HQ6 := Lib.hid (HQ5.out.trans hq6)
      have hto := told_u S2 w6 ev2 (HF5.out.q hq6)
      rw [HT2.out] at hto
      have HTo := Lib.hid hto
      have HB6 := Lib.hid (HB5.out.q hq6)
      have HK6 := Lib.hid (HK5.out.q hq6)
      clear hq6 hto HT1
      go_wp2_with fail
      refine HTo.out.mono ?_
      rintro e w7 ⟨rfl, hq7⟩
      have HQ7 := Lib.hid (HQ6.out.trans hq7)
      have HB7 := Lib.hid (HB6.out.q hq7)
      have HK7 := Lib.hid (HK6.out.q hq7)
      clear hq7 HTo
      by_cases he0 : e1 = 0
      · subst he0
        obtain ⟨h1, h2⟩ := HTold.out.1 rfl
        have h1 : e2 = 0 := h1
        subst h1
        have hSa := Same_any v1 v2 w7 _ _ _ _ HB7.out.2 HK7.out.2 (HU.out _ HQ7.out) HBg1.out HBg2.out
        rw [h2] at hSa
        have HSa := Lib.hid hSa
        clear h2 hSa
        obtain ⟨k1, t1, ns1, ks1⟩ := v1
        obtain ⟨k2, t2, ns2, ks2⟩ := v2
        obtain ⟨x0, x1, x2, x3⟩ := HB7.out.load
        obtain ⟨y0, y1, y2, y3⟩ := HK7.out.load
        go_wp2_with fail
        refine HSa.out.mono ?_
        rintro e w8 ⟨rfl, hq8⟩
        have HX := Lib.hid (HQ7.out.trans hq8)
        clear hq8 x0 x1 x2 x3 y0 y1 y2 y3
        go_wp2_with fail
        go_ret
        exact ⟨rfl, HX.out⟩
      · have g1 : decide (e1 = 0) = false := by simpa using he0
        obtain ⟨h1, h2⟩ := HTold.out.2.1 he0
        have h1 : e2 = e1 := h1
        subst h1
        have h2 : p2 = p1 + (k : Int) ∨ p1 = s.length := h2
        have hlo : 0 ≤ p1 := HTold.out.2.2.1
        have hhi : p1 ≤ 7000 := HTold.out.2.2.2
        by_cases hq : p2 = p1 + (k : Int)
        · subst hq
          clear h2
          go_wp2_with fail
          go_ret
          exact ⟨rfl, HQ7.out⟩
        · have h3 : p1 = s.length := by omega
          subst h3
          have g2 : decide (p2 = (s.length : Int) + (k : Int)) = false := by simpa using hq
          clear h2
          go_wp2_with fail
          go_ret
          exact ⟨rfl, HQ7.out⟩
end Go.Proofs.YtlhhiiemojhjdaaDoor
/- The wrap with the laid variables and the world's shape both handed to the contract. -/
set_option linter.unusedVariables false
namespace Go.Proofs.YtlhhiiemojhjdaaDoor
open Go Go.RowKit
theorem returnsInHanded_and_shaped {H : Type} {enc : TypeId × Value → H} {a : Assume} {C : Checked} {os : Os} {f : FuncId} {fn : Func} {s : ChangeSpec} {conds : List PathCond} {apart fresh handsOn again : Bool} {X : World → Array Value → Prop}
    (hX : ∀ (w w' : World) (args : Array Value), w.heap = w'.heap → X w args → X w' args)
    (own : ownKnob C.prog.godebug = none) (started : os.Started) (noInit : C.prog.inits.idxOf? f = none) (hfn : C.prog.funcs[f]? = some fn)
    (witness : ∃ (w : World) (tape : Tape) (i : Input), w.os = os ∧ (w.forCall tape i).Shaped C.prog ∧ i.vars = [] ∧ Input.okWide C.prog (w.forCall tape i) .any w.heap.size f i ∧
      ((s.pre enc C.prog fn conds apart (w.forCall tape i).memory i.args ∧ X (w.forCall tape i).memory i.args) ∧ sizedMet enc C.prog fn (OpenSpec.ofChange s) apart (w.forCall tape i).memory i.args) ∧ a.holds C.prog (lone (Frame.enter C.prog f i.args .normal) [] (w.forCall tape i)))
    (contract : ∀ (W : World) (base : Nat) (args : Array Value) (ds gs : List (DataW H)) (before : List MemPlace),
      (∀ (j : Nat) t v, fn.params[j]? = some t → args[j]? = some v → Value.okWide C.prog W .any base t v) →
      DataW.Whole enc C.prog fn.params.toList s.vars apart W args.toList ds gs before →
      conds.all (PathCond.test C.prog ⟨fn.params.toList, ds, s.plain.varTypes C.prog, gs⟩) = true →
      (DataW.weightsEach C.prog (fn.params.toList ++ s.plain.varTypes C.prog) (ds ++ gs)).all (· ≤ reachBytes) = true → X W args →
      W.ShapedOpen C.prog →
      a.holds C.prog (lone (Frame.enter C.prog f args .normal) [] W) →
      Calls C.prog f args W fun e W' => ∃ v, e = .returned v ∧ s.post enc C.prog fn apart fresh handsOn again W args v W') :
    ReturnsInHanded a C os f .any (fun w args => (s.pre enc C.prog fn conds apart w args ∧ X w args) ∧ sizedMet enc C.prog fn (OpenSpec.ofChange s) apart w args) (s.post enc C.prog fn apart fresh handsOn again) := by
  refine returnsInHanded_of_calls own started noInit witness ?_
  intro w tape i _ hsh _ hok hpre hholds
  obtain ⟨_, _, _, fn', hfn', _, _, _, _, hval⟩ := hok
  have e : fn' = fn := Option.some.inj (hfn'.symm.trans hfn)
  subst e
  obtain ⟨⟨⟨ds, gs, before, hw, hc⟩, hx⟩, hz⟩ := hpre
  have hw' := DataW.Whole.of_heap (w' := w.forCall tape i) (by rfl) hw
  refine (contract (w.forCall tape i) w.heap.size i.args ds gs before hval hw' hc (hz.weights hw) (hX _ _ _ (by rfl) hx) hsh hholds).mono fun e W' ⟨v, he, hp⟩ => ?_
  subst he
  exact ChangeSpec.post_blind hp
theorem door_laidJ (os : Os) (args : Array Value) : laidMetH Tryd.prog laidJ ((World.laidAll Tryd.prog os laidJ).forCall (fun _ _ => 0) ⟨#[], args, []⟩).memory := by
  rw [MakeChecks.laidMetH_plain _ _ _ (by kernel_rfl)]; exact laid_metJ os args
end Go.Proofs.YtlhhiiemojhjdaaDoor
