/- Texts of this proof, laid into one: JoC, JoD, JsD, JsE, JsF, JsG. -/
import Derived.Test.YtcbepjepcabllaaGreatDoorMk11
/- The document's Read of a journal's bytes. -/
set_option linter.unusedVariables false
set_option linter.unusedSimpArgs false
namespace Go.Proofs.YtcbepjepcabllaaGreatDoor
open Go Go.RowKit
def foundC (E : Int) (v : Value) (L : Int) (B : Bool) : Array Value := #[.int .i64 E, v, .int .i64 L, .bool B]
def FndAt (w : World) (g : Nat) (E : Int) (v : Value) (L : Int) (B : Bool) : Prop := w.heap[g]? = some (.cells (foundC E v L B) 107 (0, 0))
theorem infoF : (Tryz.prog.info? 107).map (·.size) = some 4 := by kernel_rfl
theorem infoF' (E : Int) (v : Value) (L : Int) (B : Bool) : (Tryz.prog.info? 107).map (·.size) = some (foundC E v L B).size := infoF
theorem foundC_one {E : Int} {v : Value} {L : Int} {B : Bool} (h : v.oneCell' = true) : (foundC E v L B).all (·.oneCell') = true := by
  unfold foundC; simp [h]; simp [Value.oneCell']
theorem FndAt.q {w w' : World} {g : Nat} {E : Int} {v : Value} {L : Int} {B : Bool} (h : FndAt w g E v L B) (hq : Q w w') : FndAt w' g E v L B := hq.block h
theorem FndAt.gb {w w' : World} {g k : Nat} {E : Int} {v : Value} {L : Int} {B : Bool} (h : FndAt w g E v L B) (hg : w.grownBy w' (some k)) (hk : g ≠ k) : FndAt w' g E v L B := by
  unfold FndAt at *
  rw [hg.block g (lt_of_heap h) (fun e => by injection e with e; exact hk e)]; exact h
theorem FndAt.c0 {w : World} {g : Nat} {E : Int} {v : Value} {L : Int} {B : Bool} (h : FndAt w g E v L B) : w.cell? ⟨g, 0, none⟩ = some (.int .i64 E) := by rw [cell_of_row _ _ _ _ _ _ h]; rfl
theorem FndAt.c1 {w : World} {g : Nat} {E : Int} {v : Value} {L : Int} {B : Bool} (h : FndAt w g E v L B) : w.cell? ⟨g, 1, none⟩ = some v := by rw [cell_of_row _ _ _ _ _ _ h]; rfl
theorem FndAt.c2 {w : World} {g : Nat} {E : Int} {v : Value} {L : Int} {B : Bool} (h : FndAt w g E v L B) : w.cell? ⟨g, 2, none⟩ = some (.int .i64 L) := by rw [cell_of_row _ _ _ _ _ _ h]; rfl
theorem FndAt.c3 {w : World} {g : Nat} {E : Int} {v : Value} {L : Int} {B : Bool} (h : FndAt w g E v L B) : w.cell? ⟨g, 3, none⟩ = some (.bool B) := by rw [cell_of_row _ _ _ _ _ _ h]; rfl
theorem FndAt.fz {w : World} {g : Nat} {E : Int} {v : Value} {L : Int} {B : Bool} (h : FndAt w g E v L B) (i : Nat) : w.frozen? ⟨g, i, none⟩ = false := frozen_of_row w g i _ _ h
theorem FndAt.s0 {w : World} {g : Nat} {E : Int} {v : Value} {L : Int} {B : Bool} (h : FndAt w g E v L B) (x : Int) : FndAt (w.setCell ⟨g, 0, none⟩ (.int .i64 x)) g x v L B := by unfold FndAt; rw [heap_setCell_any w g 0 _ _ _ _ h]; rfl
theorem FndAt.s1 {w : World} {g : Nat} {E : Int} {v : Value} {L : Int} {B : Bool} (h : FndAt w g E v L B) (x : Value) : FndAt (w.setCell ⟨g, 1, none⟩ x) g E x L B := by unfold FndAt; rw [heap_setCell_any w g 1 _ _ _ _ h]; rfl
theorem FndAt.s2 {w : World} {g : Nat} {E : Int} {v : Value} {L : Int} {B : Bool} (h : FndAt w g E v L B) (x : Int) : FndAt (w.setCell ⟨g, 2, none⟩ (.int .i64 x)) g E v x B := by unfold FndAt; rw [heap_setCell_any w g 2 _ _ _ _ h]; rfl
theorem FndAt.s3 {w : World} {g : Nat} {E : Int} {v : Value} {L : Int} {B : Bool} (h : FndAt w g E v L B) (x : Bool) : FndAt (w.setCell ⟨g, 3, none⟩ (.bool x)) g E v L x := by unfold FndAt; rw [heap_setCell_any w g 3 _ _ _ _ h]; rfl
theorem FndAt.row {w : World} {g : Nat} {E : Int} {v : Value} {L : Int} {B : Bool} (h : FndAt w g E v L B) (E' : Int) (v' : Value) (L' : Int) (B' : Bool) : FndAt (w.setRow g (foundC E' v' L' B')) g E' v' L' B' := by
  unfold FndAt at *
  simp only [World.setRow, Array.getElem?_modify, if_true]
  rw [h]; rfl
theorem OwnS.set' {w1 w : World} {v x : Value} {us : List Value} {g i : Nat} {E : Int} {v' : Value} {L : Int} {B : Bool} (h : OwnS 9 w1 w v us) (hj : FndAt w g E v' L B) : OwnS 9 w1 (w.setCell ⟨g, i, none⟩ x) v us := by
  refine World.ownsRow.kept h (gb_setCell w g i x) (.inr fun e => ?_)
  obtain ⟨_, ht⟩ := OwnS.type h e
  rw [elemT_of hj] at ht; revert ht; decide
theorem OwnS.setRow' {w1 w : World} {v : Value} {us : List Value} {g : Nat} {E : Int} {v' : Value} {L : Int} {B : Bool} {cs : Array Value} (h : OwnS 9 w1 w v us) (hj : FndAt w g E v' L B) : OwnS 9 w1 (w.setRow g cs) v us := by
  refine World.ownsRow.kept h (gb_setRow w g cs) (.inr fun e => ?_)
  obtain ⟨_, ht⟩ := OwnS.type h e
  rw [elemT_of hj] at ht; revert ht; decide
theorem OwnS.one {w1 w : World} {v : Value} {us : List Value} (h : OwnS 9 w1 w v us) : v.oneCell' = true := by
  rcases h.2 with ⟨rfl, _⟩ | ⟨g, cap, cur, rfl, _⟩ <;> rfl
/-- What Read says. -/
def RdOk (w0 w' : World) (F : FoundS) (half : Nat) (e : Ending) : Prop := (F.epoch = 0 ∧ e = .returned (.agg (foundC 0 (.slice none 0 0) 0 false))) ∨ (F.epoch ≠ 0 ∧ ∃ v, e = .returned (.agg (foundC F.epoch v ((half - F.next : Nat) : Int) F.second)) ∧ OwnS 9 w0 w' v (F.recs.map strV))
set_option maxRecDepth 100000 in
set_option maxHeartbeats 8000000 in
theorem RRead_any (s : List UInt8) (half : Nat) (w : World) (hs : s.length = 64 * (2 * half)) (hh : 2 ≤ half ∧ half ≤ 4096) :
    Calls Tryz.prog 67 #[.string ⟨s.toArray⟩] w fun e w' => RdOk w w' (foundOf (sub s 0 (64 * half)) (sub s (64 * half) s.length) half) half e ∧ Q w w' := by
  obtain ⟨F, hF⟩ : ∃ F, foundOf (sub s 0 (64 * half)) (sub s (64 * half) s.length) half = F := ⟨_, rfl⟩
  rw [hF]
  have hdv : (s.length : Int) / 2 = ((64 * half : Nat) : Int) := by omega
  have hHl : 64 * half ≤ s.length := by omega
  have hla : (sub s 0 (64 * half)).length = 64 * half := by rw [length_sub]; omega
  have hlb : (sub s (64 * half) s.length).length = 64 * half := by rw [length_sub]; omega
  obtain ⟨H, hH⟩ : ∃ H, 64 * half = H := ⟨_, rfl⟩
  rw [hH] at hF hdv hHl hla hlb
  have HH := Lib.hid hH
  have hH1 : H ≤ 262144 := by omega
  have hH2 : 128 ≤ H := by omega
  obtain ⟨a, ha⟩ : ∃ a, sub s 0 H = a := ⟨_, rfl⟩
  obtain ⟨b, hb⟩ : ∃ a, sub s H s.length = a := ⟨_, rfl⟩
  rw [ha] at hF hla
  rw [hb] at hF hlb
  unfold foundOf at hF
  have HEA := Lib.hid (fun w => Repoch_any a w (by omega) (by omega))
  have HEB := Lib.hid (fun w => Repoch_any b w (by omega) (by omega))
  have hbe := epN_le b
  have hae := epN_le a
  obtain ⟨ea, hea⟩ : ∃ e, epN a = e := ⟨_, rfl⟩
  obtain ⟨eb, heb⟩ : ∃ e, epN b = e := ⟨_, rfl⟩
  rw [hea] at hae HEA hF
  rw [heb] at hbe HEB hF
  have HF := Lib.hid hF
  have HA := Lib.hid ha
  have HB := Lib.hid hb
  have HLA := Lib.hid hla
  have HLB := Lib.hid hlb
  have HBB := Lib.hid hae
  have HBA := Lib.hid hbe
  have hsb : s.length ≤ 1000000 := by omega
  obtain ⟨G2, hG2⟩ : ∃ g, w.heap.size = g := ⟨_, rfl⟩
  have HG2 := Lib.hid hG2
  have hf0 : FndAt (w.alloc (.cells (foundC 0 (.slice none 0 0) 0 false) 107)) G2 0 (.slice none 0 0) 0 false := by rw [← hG2]; exact (MapKept.heap_alloc w _).1
  have hq0 : Q w (w.alloc (.cells (foundC 0 (.slice none 0 0) 0 false) 107)) := (Q.refl _).alloc _
  obtain ⟨W0, hW0⟩ : ∃ W, w.alloc (.cells (foundC 0 (.slice none 0 0) 0 false) 107) = W := ⟨_, rfl⟩
  rw [hW0] at hf0 hq0
  have hW0b : w.alloc (.cells #[.int .i64 0, .slice none 0 0, .int .i64 0, .bool false] 107) = W0 := hW0
  have HF0 := Lib.hid hf0
  have HQ0 := Lib.hid hq0
  have HW0 := Lib.hid hW0b
  clear hF hs ha hb hla hlb hea heb hae hbe hH hW0 hf0 hq0 hW0b
  go_enter Tryz.func67, Tryz.ntmps67
  go_upto_region 2 with (fail)
  rw [HW0.out]
  clear hG2
  clear HW0
  go_wp2_with fail
  rw [HA.out]
  refine (HEA.out W0).mono ?_
  rintro e w1 ⟨rfl, hq1⟩
  go_wp2_with fail
  rw [HB.out]
  refine (HEB.out w1).mono ?_
  rintro e w2 ⟨rfl, hq2⟩
  have HQ2 := Lib.hid ((HQ0.out.trans hq1).trans hq2)
  have HF2 := Lib.hid ((HF0.out.q hq1).q hq2)
  clear HQ0 HF0 hq1 hq2 HEA HEB
  have hlt2 : G2 < w2.heap.size := lt_of_heap HF2.out
  have HLT := Lib.hid hlt2
  clear hlt2
  go_upto_region 5 with (refine wpList_store_row rfl 107 (.tmp 6) (.tmp 24) (by rfl) w2.heap.size (foundC ea (.slice none 0 0) 0 false) (by rfl) (by rfl) 107 _ (heap_alloc_new w2 _) (infoF' _ _ _ _) rfl (foundC_one rfl) ?_)
  obtain ⟨G6, hG6⟩ : ∃ g, w2.heap.size = g := ⟨_, rfl⟩
  have hf6 : FndAt (w2.alloc (.cells (foundC 0 (.slice none 0 0) 0 false) 107)) G6 0 (.slice none 0 0) 0 false := by rw [← hG6]; exact (MapKept.heap_alloc w2 _).1
  have hf7 := hf6.row ea (.slice none 0 0) 0 false
  have hq6 : Q w2 (w2.alloc (.cells (foundC 0 (.slice none 0 0) 0 false) 107)) := (Q.refl _).alloc _
  have hq7 : Q w ((w2.alloc (.cells (foundC 0 (.slice none 0 0) 0 false) 107)).setRow G6 (foundC ea (.slice none 0 0) 0 false)) := Q.setRow (HQ2.out.trans hq6) (by rw [← hG6]; exact HQ2.out.size) _
  have hne : G2 ≠ G6 := by have := HLT.out; omega
  have hf8 := (HF2.out.q hq6).gb (gb_setRow _ G6 (foundC ea (.slice none 0 0) 0 false)) hne
  have hg6 : w.heap.size ≤ G6 := by rw [← hG6]; exact HQ2.out.size
  rw [hG6]
  obtain ⟨W7, hW7⟩ : ∃ W, (w2.alloc (.cells (foundC 0 (.slice none 0 0) 0 false) 107)).setRow G6 (foundC ea (.slice none 0 0) 0 false) = W := ⟨_, rfl⟩
  have hW7b : (w2.alloc (.cells #[.int .i64 0, .slice none 0 0, .int .i64 0, .bool false] 107)).setRow G6 (foundC ea (.slice none 0 0) 0 false) = W7 := hW7
  rw [hW7] at hf7 hq7 hf8
  rw [hW7b]
  have HF7 := Lib.hid hf7
  have HR7 := Lib.hid hf8
  have HQ7 := Lib.hid hq7
  have HNE := Lib.hid hne
  have HG6 := Lib.hid hg6
  clear hG6 hf6 hf7 hq6 hq7 hne hf8 hg6 hW7 hW7b HF2 HQ2 HLT
  go_upto_if 30 with (fail)
  go_cut [7] (fun sv wx => sv = .string ⟨(if ea < eb then b else a).toArray⟩ ∧ Hid (FndAt wx G6 ((if ea < eb then eb else ea : Nat) : Int) (.slice none 0 0) 0 (decide (ea < eb))) ∧ Hid (FndAt wx G2 0 (.slice none 0 0) 0 false) ∧ Hid (Q w wx))
  case first =>
    have c0 := HF7.out.c0
    have f0 := HF7.out.fz 0
    have c3 := HF7.out.c3
    have f3 := HF7.out.fz 3
    by_cases hlt : ea < eb
    · have g1 : decide (ea < eb) = true := decide_eq_true hlt
      have h1 := HF7.out.s0 eb
      have h2 := h1.s3 true
      have hr := (HR7.out.gb (gb_setCell W7 G6 0 (.int .i64 (eb : Int))) HNE.out).gb (gb_setCell _ G6 3 (.bool true)) HNE.out
      have hq := (HQ7.out.setNew (p := ⟨G6, 0, none⟩) HG6.out (.int .i64 (eb : Int))).setNew (p := ⟨G6, 3, none⟩) HG6.out (.bool true)
      have H2 := Lib.hid h2
      have HR := Lib.hid hr
      have HQ := Lib.hid hq
      have HL := Lib.hid hlt
      clear h1 h2 hr hq hlt
      go_wp2_with fail
      rw [HB.out]
      go_meet
      rw [if_pos HL.out, if_pos HL.out, g1]
      exact ⟨rfl, H2.out, HR.out, HQ.out⟩
    · have g1 : decide (ea < eb) = false := decide_eq_false hlt
      have HL := Lib.hid hlt
      clear hlt
      go_wp2_with fail
      go_meet
      rw [if_neg HL.out, if_neg HL.out, g1]
      exact ⟨by rw [HA.out], HF7.out, HR7.out, HQ7.out⟩
  case rest =>
    obtain ⟨rfl, HF8, HR8, HQ8⟩ := hcut
    clear HF7 HR7 HQ7
    have hHl2 : (if ea < eb then b else a).length = H := by split; exact HLB.out; exact HLA.out
    have hEb : (if ea < eb then eb else ea) ≤ 4611686018427387904 := by have := HBA.out; have := HBB.out; split <;> omega
    have HEb := Lib.hid hEb
    have hBE : (if ea < eb then eb else ea) = 0 → decide (ea < eb) = false := by
      intro h
      by_cases hl : ea < eb
      · rw [if_pos hl] at h; omega
      · exact decide_eq_false hl
    have HBE := Lib.hid hBE
    clear hBE
    obtain ⟨X, hX⟩ : ∃ h, (if ea < eb then b else a) = h := ⟨_, rfl⟩
    obtain ⟨E, hE⟩ : ∃ h, (if ea < eb then eb else ea) = h := ⟨_, rfl⟩
    obtain ⟨B, hB⟩ : ∃ h, decide (ea < eb) = h := ⟨_, rfl⟩
    have HF2 := HF.out
    unfold foundMk at HF2
    rw [hX, hE, hB] at HF2
    have HFF := Lib.hid HF2
    rw [hE, hB] at HF8
    rw [hE] at HEb
    rw [hE, hB] at HBE
    rw [hX] at hHl2 ⊢
    have HXL := Lib.hid hHl2
    have hXb : X.length ≤ 1000000 := by omega
    clear hHl2 hEb hX hE hB HF2 HF HBA HBB HLA HLB HA HB
    have c0 := HF8.out.c0
    by_cases hE0 : E = 0
    · subst hE0
      have hp : RdOk w w F half (.returned (.agg (foundC 0 (.slice none 0 0) 0 false))) := .inl ⟨by rw [← HFF.out], rfl⟩
      have HP : Hid (∀ w', RdOk w w' F half (.returned (.agg (foundC 0 (.slice none 0 0) 0 false)))) := Lib.hid (fun w' => .inl ⟨by rw [← HFF.out], rfl⟩)
      have hB0 : B = false := HBE.out rfl
      subst hB0
      clear hp HBE
      go_upto_region 11 with (fail)
      iterate 1 go_step
      refine wpList_load_row rfl 107 (.tmp 6) rfl G6 (by rfl) _ _ _ _ HF8.out Tryz.underlying107 rfl (infoF' _ _ _ _) ?_
      refine wpList_store_row rfl 107 (.tmp 2) (.tmp 40) rfl G2 (foundC ((0 : Nat) : Int) (.slice none 0 0) 0 false) (by rfl) (by rfl) 107 _ HR8.out (infoF' _ _ _ _) rfl (foundC_one rfl) ?_
      have hr := HR8.out.row ((0 : Nat) : Int) (.slice none 0 0) 0 false
      have hq := Q.setRow HQ8.out (g := G2) (by rw [← HG2.out]; exact Nat.le_refl _) (foundC ((0 : Nat) : Int) (.slice none 0 0) 0 false)
      generalize wc.setRow G2 (foundC ((0 : Nat) : Int) (.slice none 0 0) 0 false) = W9 at hr hq ⊢
      have HR9 := Lib.hid hr
      have HQ9 := Lib.hid hq
      clear hr hq c0
      go_wp2_with fail
      refine bodyPost_ret (v := .agg (foundC ((0 : Nat) : Int) (.slice none 0 0) 0 false)) ?_ rfl ⟨HP.out _, HQ9.out⟩
      exact results_cell_row rfl _ _ G2 107 _ (0, 0) _ rfl HR9.out Tryz.underlying107 rfl (infoF' _ _ _ _)
    · have g0 : ((E : Int) == 0) = false := by simp; omega
      have HE0 := Lib.hid hE0
      clear hE0
      go_upto_region 12 with (fail)
      clear c0 g0
      go_wp2_with fail
      go_loopw [8] (fun av wr => ∃ (acc : List (List UInt8)) (nx mf at_ : Nat) (v : Value), 1 ≤ nx ∧ nx ≤ half ∧ half ≤ nx + mf ∧ acc.length < nx ∧ av = .int .i64 (at_ : Int) ∧ at_ ≤ H ∧ Hid (at_ = nx * 64) ∧ Hid (recGo X E half half 1 0 = (acc ++ (recGo X E half mf nx acc.length).1, (recGo X E half mf nx acc.length).2)) ∧ Hid (OwnS 9 w wr v (acc.map strV)) ∧ Hid (FndAt wr G6 (E : Int) v 0 B) ∧ Hid (FndAt wr G2 0 (.slice none 0 0) 0 false) ∧ Hid (Q w wr)) (fun av _ => H - (intOf av).toNat)
      case atStart => exact ⟨[], 1, half, 64, _, by omega, by omega, by omega, by simp, rfl, by omega, rfl, rfl, OwnS.nil _ _ _, HF8.out, HR8.out, HQ8.out⟩
      case round =>
        clear HF8 HR8 HQ8
        obtain ⟨acc, nx, mf, at_, v, hn1, hnh, hmf, hac, rfl, hat, HAT, HRG, HOS, HFr, HRr, HQr⟩ := hrel
        obtain ⟨A1, c1', rfl, _⟩ := HOS.out.strs
        obtain ⟨LA, hLA⟩ : ∃ L, acc.length = L := ⟨_, rfl⟩
        have HLA := Lib.hid hLA
        rw [hLA] at hac HRG HFr HOS
        have hab : (LA : Int) ≤ 4096 := by omega
        have k0 : ∀ m : QW wr, m.val.cell? ⟨G6, 0, none⟩ = some (.int .i64 (E : Int)) := fun m => m.cell HFr.out.c0
        have k1 : ∀ m : QW wr, m.val.cell? ⟨G6, 1, none⟩ = some (.slice A1 LA c1') := fun m => m.cell HFr.out.c1
        obtain ⟨P, hP⟩ : ∃ P, sub X at_ X.length = P := ⟨_, rfl⟩
        have hPl : P.length = X.length - at_ := by rw [← hP, length_sub]; omega
        have hP2 : sub X (nx * 64) X.length = P := by rw [← HAT.out]; exact hP
        have HPP := Lib.hid hP
        have hatx : at_ ≤ X.length := by rw [HXL.out]; exact hat
        have HP2 := Lib.hid hP2
        have HPL := Lib.hid hPl
        have HUY := Lib.hid (fun w => RUnpack_yes P (E : Int) ((LA : Int) + 1) w (by omega))
        have HUN := Lib.hid (fun w => RUnpack_no P (E : Int) ((LA : Int) + 1) w (by omega))
        clear hLA hP hPl hP2
        by_cases hu : UnpOk P (E : Int) ((LA : Int) + 1)
        case neg =>
          have HUU := Lib.hid (fun w => HUN.out w hu)
          have hrec : recGo X E half mf nx LA = ([], nx) := by
            cases mf with
            | zero => rfl
            | succ f => rw [recGo_succ, HP2.out, show ((LA + 1 : Nat) : Int) = (LA : Int) + 1 by omega, if_neg (fun h => hu h.2)]
          rw [hrec, List.append_nil] at HRG
          have hlv : ((H : Int) - (at_ : Int)) / 64 = ((half - nx : Nat) : Int) := by have := HAT.out; have := HH.out; omega
          obtain ⟨L, hL⟩ : ∃ L : Nat, half - nx = L := ⟨_, rfl⟩
          rw [hL] at hlv
          have hFin : F = ⟨B, E, acc, nx⟩ := by rw [← HFF.out, HRG.out]
          have HFin := Lib.hid hFin
          have HL := Lib.hid hL
          have hHi : (H : Int) ≤ 262144 := by omega
          have hati : (at_ : Int) ≤ (H : Int) := by omega
          clear hu hrec hL hFin HUY HUN
          go_wp2_with fail
          refine wp_region_q (by kernel_rfl) (by kernel_rfl) ?_
          (repeat (go_big_quiet_step ((go_at_call 87; rw [HPP.out]; exact calls_q (HUU.out _)))))
          refine wpQuiet_nil ?_
          rintro wa ⟨ma, hma⟩
          have hqa : Q wr wa := by rw [hma]; exact ma.le
          have HFa := Lib.hid (HFr.out.q hqa)
          have HRa := Lib.hid (HRr.out.q hqa)
          have HQa := Lib.hid (HQr.out.trans hqa)
          have HOa := Lib.hid (HOS.out.q hqa)
          clear hma ma hqa k0 k1 HFr HRr HQr HOS
          have c2 := HFa.out.c2
          have f2 := HFa.out.fz 2
          have hs2 := HFa.out.s2 (L : Int)
          have ho2 := HOa.out.set' (i := 2) (x := .int .i64 (L : Int)) HFa.out
          have hr2 := HRa.out.gb (gb_setCell wa G6 2 (.int .i64 (L : Int))) HNE.out
          have hq2 := HQa.out.setNew (p := ⟨G6, 2, none⟩) HG6.out (.int .i64 (L : Int))
          go_upto_region 16 with (fail)
          generalize wa.setCell ⟨G6, 2, none⟩ (.int .i64 (L : Int)) = W8 at hs2 ho2 hr2 hq2 ⊢
          have HS2 := Lib.hid hs2
          have HO2 := Lib.hid ho2
          have HR2 := Lib.hid hr2
          have HQ2 := Lib.hid hq2
          clear hs2 ho2 hr2 hq2 c2 f2
          iterate 1 go_step
          refine wpList_load_row rfl 107 (.tmp 6) rfl G6 (by rfl) _ _ _ _ HS2.out Tryz.underlying107 rfl (infoF' _ _ _ _) ?_
          refine wpList_store_row rfl 107 (.tmp 2) (.tmp 62) rfl G2 (foundC (E : Int) (.slice A1 LA c1') (L : Int) B) (by rfl) (by rfl) 107 _ HR2.out (infoF' _ _ _ _) rfl (foundC_one rfl) ?_
          have hr := HR2.out.row (E : Int) (.slice A1 LA c1') (L : Int) B
          have hq := Q.setRow HQ2.out (g := G2) (by rw [← HG2.out]; exact Nat.le_refl _) (foundC (E : Int) (.slice A1 LA c1') (L : Int) B)
          have ho := HO2.out.setRow' (cs := foundC (E : Int) (.slice A1 LA c1') (L : Int) B) HR2.out
          generalize W8.setRow G2 (foundC (E : Int) (.slice A1 LA c1') (L : Int) B) = W9 at hr hq ho ⊢
          have HR9 := Lib.hid hr
          have HQ9 := Lib.hid hq
          have HO9 := Lib.hid ho
          clear hr hq ho
          go_wp2_with fail
          refine bodyPost_ret (v := .agg (foundC (E : Int) (.slice A1 LA c1') (L : Int) B)) ?_ rfl ⟨.inr ⟨by rw [HFin.out]; exact HE0.out, .slice A1 LA c1', by rw [HFin.out, ← HL.out], by rw [HFin.out]; exact HO9.out⟩, HQ9.out⟩
          exact results_cell_row rfl _ _ G2 107 _ (0, 0) _ rfl HR9.out Tryz.underlying107 rfl (infoF' _ _ _ _)
        have HUU := Lib.hid (fun w => HUY.out w hu)
        obtain ⟨n, hn, hn1', hnn, hdv⟩ := unp_len hu
        have hnx : nx < half := by
          have h1 := HPL.out
          have h2 := HXL.out
          have h3 := HAT.out
          have h4 := HH.out
          omega
        obtain ⟨mf', rfl⟩ : ∃ m, mf = m + 1 := ⟨mf - 1, by omega⟩
        have HRG2 := HRG.out
        rw [recGo_succ, HP2.out, show ((LA + 1 : Nat) : Int) = (LA : Int) + 1 by omega, if_pos ⟨hnx, hu⟩, hdv] at HRG2
        rw [hn] at HUU
        obtain ⟨pl, hpl⟩ : ∃ pl, payL P = pl := ⟨_, rfl⟩
        rw [hpl] at HRG2 HUU
        have HRG3 := Lib.hid HRG2
        have hat2 : at_ + 64 * n ≤ H := by
          have h1 := HPL.out
          have h2 := HXL.out
          omega
        have hat3 : (at_ : Int) + 64 * (n : Int) ≤ 262144 := by omega
        have hnxn : nx + n ≤ half := by
          have h3 := HAT.out
          have h4 := HH.out
          omega
        have HN1 := Lib.hid hn1'
        clear hu hn hnn hdv HRG HRG2 hpl HUY HUN hn1'
        go_wp2_with fail
        refine wp_region_q (by kernel_rfl) (by kernel_rfl) ?_
        (repeat (go_big_quiet_step ((go_at_call 87; rw [HPP.out]; exact calls_q (HUU.out _)))))
        refine wpQuiet_nil ?_
        rintro wa ⟨ma, hma⟩
        have hqa : Q wr wa := by rw [hma]; exact ma.le
        have HFa := Lib.hid (HFr.out.q hqa)
        have HRa := Lib.hid (HRr.out.q hqa)
        have HQa := Lib.hid (HQr.out.trans hqa)
        have HOa := Lib.hid (HOS.out.q hqa)
        clear hma ma hqa k0 k1 HFr HRr HQr HOS
        have c1 := HFa.out.c1
        have hll : (acc.map strV).length ≤ 1000000 := by rw [List.length_map, HLA.out]; omega
        have HLL := Lib.hid hll
        clear hll
        go_upto_region 17 with (fail)
        iterate 13 go_step
        refine wpList_append_s rfl (.tmp 64) (.tmp 66) rfl w wa _ _ pl (by rfl) HOa.out (by rfl) (by exact HQa.out.size) HLL.out ?_
        intro v5 w5 ho5 hg5
        have HO5 : Hid (OwnS 9 w w5 v5 ((acc ++ [pl]).map strV)) := Lib.hid (by rw [List.map_append]; exact ho5)
        have hfz : ∀ k, (Value.slice A1 LA c1').ownBlock = some k → G6 ≠ k ∧ G2 ≠ k := fun k hk => by
          obtain ⟨_, ht⟩ := OwnS.type HOa.out hk
          refine ⟨fun e => ?_, fun e => ?_⟩
          · subst e; rw [elemT_of HFa.out] at ht; revert ht; decide
          · subst e; rw [elemT_of HRa.out] at ht; revert ht; decide
        have hF5 : FndAt w5 G6 (E : Int) (.slice A1 LA c1') 0 B := by
          unfold FndAt
          rw [hg5.block G6 (lt_of_heap HFa.out) (fun e => (hfz G6 e.symm).1 rfl)]; exact HFa.out
        have hR5 : FndAt w5 G2 0 (.slice none 0 0) 0 false := by
          unfold FndAt
          rw [hg5.block G2 (lt_of_heap HRa.out) (fun e => (hfz G2 e.symm).2 rfl)]; exact HRa.out
        have hQ5 := gb_q_own hg5 HQa.out (fun k hk => HOa.out.block hk)
        have cc1 := hF5.c1
        have ff1 := hF5.fz 1
        have hs1 := hF5.s1 v5
        have ho1 := HO5.out.set' (i := 1) (x := v5) hF5
        have hr1 := hR5.gb (gb_setCell w5 G6 1 v5) HNE.out
        have hq1 := hQ5.setNew (p := ⟨G6, 1, none⟩) HG6.out v5
        obtain ⟨A5, c5, hv5, _⟩ := HO5.out.strs
        have hl5 : (acc ++ [pl]).length = LA + 1 := by rw [List.length_append, HLA.out]; rfl
        rw [hl5] at hv5
        subst hv5
        have HS1 := Lib.hid hs1
        have HO1 := Lib.hid ho1
        have HR1 := Lib.hid hr1
        have HQ1 := Lib.hid hq1
        have HL5 := Lib.hid hl5
        clear hs1 ho1 hr1 hq1 hl5 hF5 hR5 hQ5 hfz ho5 hg5 c1 HFa HRa HQa HOa HO5
        go_wp2_with fail
        go_roundw
        case rel =>
          refine ⟨acc ++ [pl], nx + n, mf', at_ + 64 * n, .slice A5 (LA + 1) c5, by omega, hnxn, by have := HN1.out; omega, by have := HN1.out; rw [HL5.out]; omega, by go_num, hat2, ?_, ?_, HO1.out, HS1.out, HR1.out, HQ1.out⟩
          · show at_ + 64 * n = (nx + n) * 64
            have := HAT.out; omega
          · show recGo X E half half 1 0 = _
            rw [HL5.out, HRG3.out]; simp
        case measure => have := HN1.out; simp [intOf]; omega
end Go.Proofs.YtcbepjepcabllaaGreatDoor
/- Where no journal may be, or none is: begin, Format, Open; the disk's Image; the law's is. -/
set_option linter.unusedVariables false
set_option linter.unusedSimpArgs false
namespace Go.Proofs.YtcbepjepcabllaaGreatDoor
open Go Go.RowKit
/-- There may be a journal. -/
def MayJ (f s n : Int) : Prop := 0 ≤ f ∧ 4 ≤ s ∧ s % 2 = 0 ∧ s ≤ n ∧ f ≤ n - s
set_option maxHeartbeats 2000000 in
theorem begin_bad {w0 w : World} {bd bp gh : Nat} {d : DskS} (f s : Int) (h : DAt w0 w bd bp gh d) (hb : ¬ MayJ f s d.n) (hs : -9223372036854775808 ≤ s ∧ s ≤ 9223372036854775807) :
    Calls Tryz.prog 30 #[.pointer (some ⟨bd, 0, none⟩), .int .i64 f, .int .i64 s] w fun e w' => (∃ v, e = .returned (.tuple #[.pointer none, v]) ∧ ErrIs w' v 1 0) ∧ Q w w' := by
  have HS := Lib.hid (Sectors_dk h)
  have h8 := h.ok.most
  have HF := Lib.hid jfault_any
  obtain ⟨n, hnn⟩ : ∃ n, d.n = n := ⟨_, rfl⟩
  rw [hnn] at HS hb h8
  unfold MayJ at hb
  have hn8 : (n : Int) ≤ 8192 := by omega
  clear h hnn h8
  by_cases h0 : f < 0
  · have g0 : decide (f < 0) = true := decide_eq_true h0
    clear h0 hb hs
    go_enter Tryz.func30, Tryz.ntmps30
    go_wp2_with fail
    refine (HF.out 1 _ (by decide)).mono ?_
    rintro e w8 ⟨⟨v, rfl, hv⟩, hq8⟩
    go_wp2_with fail
    go_ret2
    exact ⟨⟨v, rfl, hv⟩, hq8⟩
  have g0 : decide (f < 0) = false := decide_eq_false h0
  by_cases h1 : s < 4
  · have g1 : decide (s < 4) = true := decide_eq_true h1
    clear h0 h1 hb hs
    go_enter Tryz.func30, Tryz.ntmps30
    go_wp2_with fail
    refine (HF.out 1 _ (by decide)).mono ?_
    rintro e w8 ⟨⟨v, rfl, hv⟩, hq8⟩
    go_wp2_with fail
    go_ret2
    exact ⟨⟨v, rfl, hv⟩, hq8⟩
  have g1 : decide (s < 4) = false := decide_eq_false h1
  have hs0 : 0 ≤ s := by omega
  by_cases h2 : s % 2 = 0
  case neg =>
    have g2 : (s % 2 != 0) = true := by simpa using h2
    clear h0 h1 h2 hb hs
    go_enter Tryz.func30, Tryz.ntmps30
    go_wp2_with fail
    refine (HF.out 1 _ (by decide)).mono ?_
    rintro e w8 ⟨⟨v, rfl, hv⟩, hq8⟩
    go_wp2_with fail
    go_ret2
    exact ⟨⟨v, rfl, hv⟩, hq8⟩
  have g2 : (s % 2 != 0) = false := by simpa using h2
  by_cases h3 : (n : Int) < s
  · have g3 : decide ((n : Int) < s) = true := decide_eq_true h3
    clear h0 h1 h2 h3 hb hs
    go_enter Tryz.func30, Tryz.ntmps30
    go_wp2_with fail
    refine HS.out.mono ?_
    rintro e w1 ⟨rfl, rfl⟩
    go_wp2_with fail
    refine (HF.out 1 _ (by decide)).mono ?_
    rintro e w8 ⟨⟨v, rfl, hv⟩, hq8⟩
    go_wp2_with fail
    go_ret2
    exact ⟨⟨v, rfl, hv⟩, hq8⟩
  have g3 : decide ((n : Int) < s) = false := decide_eq_false h3
  have h4 : (n : Int) - s < f := by omega
  have g4 : decide ((n : Int) - s < f) = true := decide_eq_true h4
  have hsn : s ≤ (n : Int) := by omega
  clear h0 h1 h2 h3 h4 hb hs
  go_enter Tryz.func30, Tryz.ntmps30
  go_wp2_with fail
  refine HS.out.mono ?_
  rintro e w1 ⟨rfl, rfl⟩
  go_wp2_with fail
  refine HS.out.mono ?_
  rintro e w1 ⟨rfl, rfl⟩
  go_wp2_with fail
  refine (HF.out 1 _ (by decide)).mono ?_
  rintro e w8 ⟨⟨v, rfl, hv⟩, hq8⟩
  go_wp2_with fail
  go_ret2
  exact ⟨⟨v, rfl, hv⟩, hq8⟩
set_option maxHeartbeats 2000000 in
theorem Format_bad {w0 w : World} {bd bp gh : Nat} {d : DskS} (f s : Int) (h : DAt w0 w bd bp gh d) (hb : ¬ MayJ f s d.n) (hs : -9223372036854775808 ≤ s ∧ s ≤ 9223372036854775807) :
    Calls Tryz.prog 10 #[.pointer (some ⟨bd, 0, none⟩), .int .i64 f, .int .i64 s] w fun e w' => (∃ v, e = .returned (.tuple #[.pointer none, v]) ∧ ErrIs w' v 1 0) ∧ Q w w' := by
  have HB := Lib.hid (begin_bad f s h hb hs)
  clear h hb hs
  go_enter Tryz.func10, Tryz.ntmps10
  go_wp2_with fail
  refine HB.out.mono ?_
  rintro e w1 ⟨⟨v, rfl, hv⟩, hq1⟩
  rcases hv with ⟨hc, _⟩ | ⟨hc, b, rfl, hf⟩
  · cases hc
  have HFF := Lib.hid hf
  clear hf hc HB
  go_wp2_with fail
  go_ret2
  exact ⟨⟨_, rfl, .inr ⟨by decide, b, rfl, HFF.out⟩⟩, hq1⟩
set_option maxRecDepth 100000 in
set_option maxHeartbeats 2000000 in
theorem Open_bad {w0 w : World} {bd bp gh : Nat} {d : DskS} (f s : Int) (h : DAt w0 w bd bp gh d) (hb : ¬ MayJ f s d.n) (hs : -9223372036854775808 ≤ s ∧ s ≤ 9223372036854775807) :
    Calls Tryz.prog 21 #[.pointer (some ⟨bd, 0, none⟩), .int .i64 f, .int .i64 s] w fun e w' => (∃ v, e = .returned (.tuple #[.pointer none, .slice none 0 0, v]) ∧ ErrIs w' v 1 0) ∧ Q w w' := by
  have HB := Lib.hid (begin_bad f s h hb hs)
  clear h hb hs
  go_enter Tryz.func21, Tryz.ntmps21
  go_wp2_with fail
  refine HB.out.mono ?_
  rintro e w1 ⟨⟨v, rfl, hv⟩, hq1⟩
  rcases hv with ⟨hc, _⟩ | ⟨hc, b, rfl, hf⟩
  · cases hc
  have HFF := Lib.hid hf
  clear hf hc HB
  go_wp2_with fail
  go_ret3
  exact ⟨⟨_, rfl, .inr ⟨by decide, b, rfl, HFF.out⟩⟩, hq1⟩
set_option maxRecDepth 100000 in
set_option maxHeartbeats 8000000 in
theorem Open_blank {w0 w : World} {bd bp gh : Nat} {d : DskS} (f half : Nat) (h : DAt w0 w bd bp gh d) (hh : 2 ≤ half) (hn : f + 2 * half ≤ d.n) (h0 : w0.heap.size ≤ w.heap.size) (hw : d.wait.length ≤ 900000) (hg : d.gone = false ∧ d.dead = false) (he : (openF f half d).epoch = 0) :
    Calls Tryz.prog 21 #[.pointer (some ⟨bd, 0, none⟩), .int .i64 (f : Int), .int .i64 ((2 * half : Nat) : Int)] w fun e w' => (∃ v, e = .returned (.tuple #[.pointer none, .slice none 0 0, v]) ∧ ErrIs w' v 15 0) ∧ Q w w' := by
  have HB := Lib.hid (begin_ok f half h hh hn h0)
  have hokd := Lib.hid h.ok
  have hm8 := h.ok.most
  obtain ⟨F, hF⟩ : ∃ F, openF f half d = F := ⟨_, rfl⟩
  rw [hF] at he
  have HF := Lib.hid hF
  unfold openF at HF
  have HE0 := Lib.hid he
  have HFA := Lib.hid jfault_any
  have HLD := Lib.hid (fun (sec : Bool) (bj : Nat) (w' : World) (hj : JD w0 w' bj bd bp gh (jrn0 f half) d) (h0' : w0.heap.size ≤ w'.heap.size) => load_any sec hj hn hw hg h0')
  have hla : (halfL (jrn0 f half) false d half).length = 64 * half := halfL_len hokd.out hn half (Nat.le_refl _)
  have hlb : (halfL (jrn0 f half) true d half).length = 64 * half := halfL_len hokd.out hn half (Nat.le_refl _)
  obtain ⟨a, ha⟩ : ∃ a, halfL (jrn0 f half) false d half = a := ⟨_, rfl⟩
  obtain ⟨b, hb⟩ : ∃ a, halfL (jrn0 f half) true d half = a := ⟨_, rfl⟩
  have HLA : Hid (∀ bj w', JD w0 w' bj bd bp gh (jrn0 f half) d → w0.heap.size ≤ w'.heap.size → Calls Tryz.prog 50 #[.pointer (some ⟨bj, 0, none⟩), .bool false] w' fun e w'' => e = .returned (.tuple #[.string ⟨a.toArray⟩, .nilIface]) ∧ Q w' w'') := Lib.hid (fun bj w' hj h0' => by rw [← ha]; exact HLD.out false bj w' hj h0')
  have HLB : Hid (∀ bj w', JD w0 w' bj bd bp gh (jrn0 f half) d → w0.heap.size ≤ w'.heap.size → Calls Tryz.prog 50 #[.pointer (some ⟨bj, 0, none⟩), .bool true] w' fun e w'' => e = .returned (.tuple #[.string ⟨b.toArray⟩, .nilIface]) ∧ Q w' w'') := Lib.hid (fun bj w' hj h0' => by rw [← hb]; exact HLD.out true bj w' hj h0')
  rw [ha] at hla
  rw [hb] at hlb
  rw [ha, hb] at HF
  unfold foundOf at HF
  have hbe := epN_le b
  have hae := epN_le a
  have HEA := Lib.hid (fun w => epochOf_any a w (by omega) (by omega))
  have HEB := Lib.hid (fun w => epochOf_any b w (by omega) (by omega))
  obtain ⟨ea, hea⟩ : ∃ e, epN a = e := ⟨_, rfl⟩
  obtain ⟨eb, heb⟩ : ∃ e, epN b = e := ⟨_, rfl⟩
  rw [hea] at hae HEA
  rw [heb] at hbe HEB
  rw [hea, heb] at HF
  have HL1 := Lib.hid hla
  have HL2 := Lib.hid hlb
  have hh' : half ≤ 4096 := by omega
  obtain ⟨s, hs⟩ : ∃ s, s = 2 * half := ⟨_, rfl⟩
  rw [← hs] at HB ⊢
  clear h hF he HLD ha hb hea heb hla hlb hs hg hn
  go_enter Tryz.func21, Tryz.ntmps21
  go_wp2_with fail
  refine HB.out.mono ?_
  rintro e w1 ⟨⟨bj, rfl, hj1, hbj⟩, hq1⟩
  have HJ1 := Lib.hid hj1
  have HQ1 := Lib.hid hq1
  have h01 := Nat.le_trans h0 hq1.size
  clear hj1 hq1 HB
  go_wp2_with fail
  refine (HLA.out bj w1 HJ1.out h01).mono ?_
  rintro e w2 ⟨rfl, hq2⟩
  have HJ2 := Lib.hid (HJ1.out.q hq2)
  have HQ2 := Lib.hid (HQ1.out.trans hq2)
  have h02 := Nat.le_trans h01 hq2.size
  clear hq2 HJ1 HQ1
  go_wp2_with fail
  refine (HLB.out bj w2 HJ2.out h02).mono ?_
  rintro e w3 ⟨rfl, hq3⟩
  have HJ3 := Lib.hid (HJ2.out.q hq3)
  have HQ3 := Lib.hid (HQ2.out.trans hq3)
  have h03 := Nat.le_trans h02 hq3.size
  clear hq3 HJ2 HQ2 HLA HLB
  go_wp2_with fail
  refine (HEA.out w3).mono ?_
  rintro e w4 ⟨rfl, hq4⟩
  have HJ4 := Lib.hid (HJ3.out.q hq4)
  have HQ4 := Lib.hid (HQ3.out.trans hq4)
  have h04 := Nat.le_trans h03 hq4.size
  have c4 := HJ4.out.j.c4
  have f4 := HJ4.out.j.fz 4
  obtain ⟨hs1, hs2⟩ := HJ4.out.set 4 (.int .i64 (ea : Int)) (HJ4.out.j.set4 ea)
  have hqs := HQ4.out.setNew (p := ⟨bj, 4, none⟩) hbj (.int .i64 (ea : Int))
  clear hq4 HJ3 HQ3
  go_upto_region 11 with (fail)
  obtain ⟨W5, hW5⟩ : ∃ W, w4.setCell ⟨bj, 4, none⟩ (.int .i64 (ea : Int)) = W := ⟨_, rfl⟩
  rw [hW5] at hs1 hs2 hqs ⊢
  have HJ5 := Lib.hid hs1
  have HQ5 := Lib.hid hqs
  have h05 := Nat.le_trans h04 hs2.size
  clear hs1 hs2 hqs hW5 c4 f4 HJ4 HQ4
  go_wp2_with fail
  refine (HEB.out W5).mono ?_
  rintro e w6 ⟨rfl, hq6⟩
  have HJ6 := Lib.hid (HJ5.out.q hq6)
  have HQ6 := Lib.hid (HQ5.out.trans hq6)
  have h06 := Nat.le_trans h05 hq6.size
  have c4 := HJ6.out.j.c4
  have f4 := HJ6.out.j.fz 4
  have c3 := HJ6.out.j.c3
  have f3 := HJ6.out.j.fz 3
  simp only at c4 c3
  clear hq6 HJ5 HQ5 HEA HEB
  go_upto_if 58 with (fail)
  go_cut [11] (fun sv wx => sv = .string ⟨(if ea < eb then b else a).toArray⟩ ∧ Hid (JD w0 wx bj bd bp gh { jrn0 f half with second := decide (ea < eb), epoch := if ea < eb then eb else ea } d) ∧ Hid (Q w wx) ∧ w0.heap.size ≤ wx.heap.size)
  case first =>
    by_cases hlt : ea < eb
    · have g1 : decide (ea < eb) = true := decide_eq_true hlt
      obtain ⟨hs1, hs2⟩ := HJ6.out.set 4 (.int .i64 (eb : Int)) (HJ6.out.j.set4 eb)
      obtain ⟨hs3, hs4⟩ := hs1.set 3 (.bool true) (hs1.j.set3 true)
      have hqs := (HQ6.out.setNew (p := ⟨bj, 4, none⟩) hbj (.int .i64 (eb : Int))).setNew (p := ⟨bj, 3, none⟩) hbj (.bool true)
      have HJ7 := Lib.hid hs3
      have HQ7 := Lib.hid hqs
      have h07 := Nat.le_trans h06 (hs2.trans hs4).size
      have HLT := Lib.hid hlt
      clear hs1 hs2 hs3 hs4 hqs hlt
      go_wp2_with fail
      go_meet
      rw [if_pos HLT.out, if_pos HLT.out, g1]
      exact ⟨rfl, HJ7.out, HQ7.out, h07⟩
    · have g1 : decide (ea < eb) = false := decide_eq_false hlt
      have HLT := Lib.hid hlt
      clear hlt
      go_wp2_with fail
      go_meet
      rw [if_neg HLT.out, if_neg HLT.out, g1]
      exact ⟨rfl, HJ6.out, HQ6.out, h06⟩
  case rest =>
    obtain ⟨rfl, HJ7, HQ7, h07⟩ := hcut
    have hEb : (if ea < eb then eb else ea) ≤ 4611686018427387904 := by split <;> omega
    have hHl : (if ea < eb then b else a).length = 64 * half := by split; exact HL2.out; exact HL1.out
    obtain ⟨H, hH⟩ : ∃ h, (if ea < eb then b else a) = h := ⟨_, rfl⟩
    obtain ⟨E, hE⟩ : ∃ h, (if ea < eb then eb else ea) = h := ⟨_, rfl⟩
    obtain ⟨B, hB⟩ : ∃ h, decide (ea < eb) = h := ⟨_, rfl⟩
    rw [hH, hE, hB] at HF
    rw [hE, hB] at HJ7
    rw [hE] at hEb
    rw [hH] at hHl ⊢
    have hE1 : E = 0 := by have := HE0.out; rw [← HF.out] at this; exact this
    subst hE1
    have c4 := HJ7.out.j.c4
    simp only at c4
    clear hH hE hB c3 f3 f4 HJ6 HQ6 h06 HL1 HL2 hHl
    go_wp2_with fail
    refine (HFA.out 15 _ (by decide)).mono ?_
    rintro e w8 ⟨⟨v, rfl, hv⟩, hq8⟩
    have HV := Lib.hid hv
    clear hv
    go_wp2_with fail
    go_ret3
    exact ⟨⟨v, rfl, HV.out⟩, HQ7.out.trans hq8⟩
set_option maxHeartbeats 1000000 in
theorem Image_any {w0 w : World} {bd bp gh : Nat} {d : DskS} (h : DAt w0 w bd bp gh d) (hd : d.dead = false) :
    Calls Tryz.prog 18 #[.pointer (some ⟨bd, 0, none⟩)] w fun e w' => e = .returned (.string ⟨d.has.toArray⟩) ∧ w = w' := by
  have c3 := h.dead_cell
  rw [hd] at c3
  have c1 := h.has_cell
  have hcv : (convert 59 9 (.slice (some ⟨gh, 0, none⟩) d.has.length d.has.length)).run Tryz.prog w = .ok (.string ⟨(sub d.has 0 (0 + d.has.length)).toArray⟩) w := conv_at h.mem (by omega)
  rw [show sub d.has 0 (0 + d.has.length) = d.has by unfold sub; rw [Nat.zero_add, List.take_length, List.drop_zero]] at hcv
  clear h hd
  go_enter Tryz.func18, Tryz.ntmps18
  go_wp2_with fail
  go_ret
  exact ⟨rfl, rfl⟩
set_option maxRecDepth 100000 in
set_option maxHeartbeats 1000000 in
theorem is_some (v : Value) (c : Int) (w : World) (h : ErrIs w v c 0) (hc : c = 1 ∨ c = 12 ∨ c = 15 ∨ c = 16) : Calls Tryz.prog 20 #[v, .int .i64 c] w fun e w' => e = .returned (.bool true) ∧ w = w' := by
  have g0 : (c == 0) = false := by rcases hc with rfl | rfl | rfl | rfl <;> rfl
  have g1 : (c != 10) = true := by rcases hc with rfl | rfl | rfl | rfl <;> rfl
  have g2 : (c != 11) = true := by rcases hc with rfl | rfl | rfl | rfl <;> rfl
  have hr : -9223372036854775808 ≤ c ∧ c ≤ 9223372036854775807 := by omega
  rcases h with ⟨h, _⟩ | ⟨_, b, rfl, hf⟩
  · omega
  have c0 := hf.cell0
  have c1 := hf.cell1
  have c2 := hf.cell2
  have HF := Lib.hid hf
  have hA := asFault
  clear hf hc
  go_enter Tryz.func20, Tryz.ntmps20
  go_wp2_with (go_at_call 48; refine (errorsIs_true b c 0 _ HF.out).mono ?_; rintro e w' ⟨rfl, rfl⟩)
  go_ret
  exact ⟨rfl, rfl⟩
end Go.Proofs.YtcbepjepcabllaaGreatDoor
/- The law's is, of a journal's error when the power is gone. -/
set_option linter.unusedVariables false
set_option linter.unusedSimpArgs false
namespace Go.Proofs.YtcbepjepcabllaaGreatDoor
open Go Go.RowKit
set_option maxRecDepth 100000 in
set_option maxHeartbeats 2000000 in
theorem is_pow (b : Nat) (w : World) (h : WrapAt w b 10) (he : ErrT w) :
    Calls Tryz.prog 20 #[.iface 84 (.pointer (some ⟨b, 0, none⟩)), .int .i64 10] w fun e w' => e = .returned (.bool true) ∧ Q w w' := by
  have HW := Lib.hid h
  obtain ⟨b2, hb, hb2⟩ := h
  have c0 : w.cell? ⟨b, 0, none⟩ = some (.int .i64 10) := by rw [cell_of_row _ _ _ _ _ _ hb]; rfl
  have c1 : w.cell? ⟨b, 1, none⟩ = some (.int .i64 0) := by rw [cell_of_row _ _ _ _ _ _ hb]; rfl
  have c2 : w.cell? ⟨b, 2, none⟩ = some (.iface 84 (.pointer (some ⟨b2, 0, none⟩))) := by rw [cell_of_row _ _ _ _ _ _ hb]; rfl
  have HC2 := Lib.hid c2
  have hq1 : Q w (w.alloc (.cells #[.pointer none] 84)) := (Q.refl w).alloc _
  have k2 : (w.alloc (.cells #[.pointer none] 84)).cell? ⟨b, 2, none⟩ = some (.iface 84 (.pointer (some ⟨b2, 0, none⟩))) := hq1.cell c2
  have HA := Lib.hid (as_any b2 w.heap.size (w.alloc (.cells #[.pointer none] 84)) (he.q hq1) (MapKept.heap_alloc w _).1)
  have HQ1 := Lib.hid hq1
  have HF := Lib.hid hb2
  have hA := asFault
  clear hb hb2 hq1 he
  go_enter Tryz.func20, Tryz.ntmps20
  go_wp2_with (go_at_call 48; refine (errorsIs_w b 10 _ HW.out).mono ?_; rintro e w' ⟨rfl, rfl⟩)
  refine HA.out.mono ?_
  rintro e w2 ⟨rfl, hh, hg⟩
  have hq2 : Q w w2 := gb_q hg HQ1.out (Nat.le_refl _)
  have HF2 := HF.out.q hq2
  have d0 := HF2.cell0
  have d1 : w2.cell? ⟨w.heap.size, 0, none⟩ = some (.pointer (some ⟨b2, 0, none⟩)) := by rw [cell_of_row _ _ _ _ _ _ hh]; rfl
  have HQ2 := Lib.hid hq2
  clear hh hg HF2 hq2 HQ1 HA
  go_wp2_with fail
  go_ret
  exact ⟨rfl, HQ2.out⟩
end Go.Proofs.YtcbepjepcabllaaGreatDoor
/- A journal that refuses: it is closed, or a record is too long. -/
set_option linter.unusedVariables false
set_option linter.unusedSimpArgs false
namespace Go.Proofs.YtcbepjepcabllaaGreatDoor
open Go Go.RowKit
set_option maxHeartbeats 1000000 in
theorem Append_closed {w : World} {bj bd : Nat} {j : JrnS} (p : List UInt8) (h : JAt w bj bd j) (hcl : j.closed = true) :
    Calls Tryz.prog 19 #[.pointer (some ⟨bj, 0, none⟩), .string ⟨p.toArray⟩] w fun e w' => (∃ v, e = .returned v ∧ ErrIs w' v 16 0) ∧ Q w w' := by
  have HF := Lib.hid jfault_any
  have c7 := h.c7
  rw [hcl] at c7
  clear h hcl
  go_enter Tryz.func19, Tryz.ntmps19
  go_wp2_with fail
  refine (HF.out 16 _ (by decide)).mono ?_
  rintro e w1 ⟨⟨v, rfl, hv⟩, hq⟩
  go_wp2_with fail
  go_ret
  exact ⟨⟨v, rfl, hv⟩, hq⟩
set_option maxHeartbeats 1000000 in
theorem Reset_closed {w : World} {bj bd : Nat} {j : JrnS} (v : Value) (h : JAt w bj bd j) (hcl : j.closed = true) :
    Calls Tryz.prog 22 #[.pointer (some ⟨bj, 0, none⟩), v] w fun e w' => (∃ v, e = .returned v ∧ ErrIs w' v 16 0) ∧ Q w w' := by
  have HF := Lib.hid jfault_any
  have c7 := h.c7
  rw [hcl] at c7
  clear h hcl
  go_enter Tryz.func22, Tryz.ntmps22
  go_wp2_with fail
  refine (HF.out 16 _ (by decide)).mono ?_
  rintro e w1 ⟨⟨v, rfl, hv⟩, hq⟩
  go_wp2_with fail
  go_ret
  exact ⟨⟨v, rfl, hv⟩, hq⟩
set_option maxHeartbeats 1000000 in
theorem Reset_top {w : World} {bj bd : Nat} {j : JrnS} (v : Value) (h : JAt w bj bd j) (hcl : j.closed = false) (he : 4611686018427387904 ≤ j.epoch) :
    Calls Tryz.prog 22 #[.pointer (some ⟨bj, 0, none⟩), v] w fun e w' => (∃ v, e = .returned v ∧ ErrIs w' v 1 0) ∧ Q w w' := by
  have HF := Lib.hid jfault_any
  have c7 := h.c7
  have c4 := h.c4
  rw [hcl] at c7
  have g1 : decide ((4611686018427387904 : Int) ≤ (j.epoch : Int)) = true := decide_eq_true (by omega)
  clear h hcl he
  go_enter Tryz.func22, Tryz.ntmps22
  go_wp2_with fail
  refine (HF.out 1 _ (by decide)).mono ?_
  rintro e w1 ⟨⟨v, rfl, hv⟩, hq⟩
  go_wp2_with fail
  go_ret
  exact ⟨⟨v, rfl, hv⟩, hq⟩
set_option maxRecDepth 100000 in
set_option maxHeartbeats 2000000 in
theorem Append_big {w : World} {bj bd : Nat} {j : JrnS} (p : List UInt8) (h : JAt w bj bd j) (hcl : j.closed = false) (ho : j.Ok) (hp : 60000 < p.length) (hl : p.length ≤ 140737488355328) :
    Calls Tryz.prog 19 #[.pointer (some ⟨bj, 0, none⟩), .string ⟨p.toArray⟩] w fun e w' => (∃ v, e = .returned v ∧ ErrIs w' v 1 0) ∧ Q w w' := by
  have HF := Lib.hid jfault_any
  have c7 := h.c7
  rw [hcl] at c7
  have k4 : ∀ m : QW w, m.val.cell? ⟨bj, 4, none⟩ = some (.int .i64 (j.epoch : Int)) := fun m => m.cell h.c4
  have k5 : ∀ m : QW w, m.val.cell? ⟨bj, 5, none⟩ = some (.int .i64 (j.many : Int)) := fun m => m.cell h.c5
  have m1 : (j.many : Int) ≤ 100000 := by have := ho.many; omega
  have HPK : Hid (∀ w' : World, Calls Tryz.prog 33 #[.int .i64 (j.epoch : Int), .int .i64 ((j.many : Int) + 1), .string ⟨p.toArray⟩] w' fun x w'' => ∃ ev, x = .returned (.tuple #[.string ⟨#[]⟩, ev]) ∧ ErrIs w'' ev 1 0 ∧ Q w' w'') :=
    Lib.hid (fun w' => Pack_bad (j.epoch : Int) ((j.many : Int) + 1) p w' hl (.inr hp))
  clear h hcl ho hp
  go_enter Tryz.func19, Tryz.ntmps19
  go_upto_region 3 with (fail)
  clear c7
  refine wp_region_noPanic ?_
  refine wp_plan [([0, 1, 2, 3, 4, 5, 6, 7, 8, 9], [10]), ([11, 12, 13, 14, 15], [])] (by kernel_rfl) (by kernel_rfl) (fun _ _ _ _ _ h => h) ?_
  simp only [wpPlan, wpListK, List.map_cons, List.map_nil, Array.getD_eq_getD_getElem?, List.getElem?_toArray, List.getElem?_cons_succ, List.getElem?_cons_zero, Option.getD_some]
  (repeat (go_big_quiet_step (fail)))
  refine wpQuiet_nil ?_
  clear k4 k5
  obtain ⟨Wd, hWd⟩ : ∃ W, w.drew = W := ⟨_, rfl⟩
  have hqd : Q w Wd := by rw [← hWd]; exact (Q.refl w).drew
  rw [hWd]
  clear hWd
  intro K hK
  go_wp2_with fail
  refine (HPK.out _).mono ?_
  rintro e w1 ⟨ev, rfl, hev, hq⟩
  rcases hev with ⟨h0, _⟩ | ⟨_, b, rfl, _⟩
  · exact absurd h0 (by decide)
  have HQ1 := Lib.hid (hqd.trans hq)
  clear hq hqd
  go_wp2_with fail
  refine hK.out _ _ ⟨⟨_, HQ1.out⟩, rfl⟩ ?_
  clear hK K
  (repeat (go_big_quiet_step (fail)))
  refine wpQuiet_nil ?_
  refine NoPanic.normal ?_
  go_wp2_with fail
  refine (HF.out 1 _ (by decide)).mono ?_
  rintro e w3 ⟨⟨v, rfl, hv⟩, hq3⟩
  have HQ3 := Lib.hid (HQ1.out.trans hq3)
  clear hq3
  go_wp2_with fail
  go_ret
  exact ⟨⟨v, rfl, hv⟩, HQ3.out⟩
end Go.Proofs.YtcbepjepcabllaaGreatDoor
/- A journal's Reset that is refused: a record is too long, or they don't fit. -/
set_option linter.unusedVariables false
set_option linter.unusedSimpArgs false
namespace Go.Proofs.YtcbepjepcabllaaGreatDoor
open Go Go.RowKit
/-- What a journal's Reset answers to records, ahead of the disk. -/
def resC (half : Nat) (ls : List (List UInt8)) : Int := if bigL ls then 1 else if half - 1 < wantS ls then 12 else 0
/-- append(l, s), and what it leaves alone, of more texts. -/
theorem wpList_append_sb {ops : Array Oper} {rest : List Oper} {o : Oper} {a : Act} {R : Exit → Act → World → Prop} (hgd : o.guard = none) (s x : Operand)
    (ho : o.op = .call { callee := .builtin .append, args := #[s, x], argTypes := #[31, 31] })
    (w0 W : World) (v : Value) (us : List Value) (u : List UInt8) (hs : a.eval s = v) (hown : OwnS 9 w0 W v us) (hx : a.eval x = .slice (some ⟨W.heap.size, 0, none⟩) 1 1) (hw0 : w0.heap.size ≤ W.heap.size) (hb : us.length + 1 ≤ 8796093022208)
    (h : ∀ v' w', OwnS 9 w0 w' v' (us ++ [strV u]) → W.grownBy w' v.ownBlock → wpList Tryz.prog ops R rest (a.put o.dst v') w') : wpList Tryz.prog ops R (o :: rest) a (W.alloc (.cells #[strV u] 9)) := by
  obtain ⟨i, hi, hz, hsz, hby⟩ := info_parts oneStr'.info
  refine wpList_append_own (w := W.alloc (.cells #[strV u] 9)) hgd s x 31 ho w0.heap.size 9 i _ 1 16 oneStr'.under hi hz hsz hby oneStr'.zsize (by decide) v us.length us hs (World.ownsRow.alloc hown _) ⟨W.heap.size, 0, none⟩ 1 1 [strV u] hx rfl ?_ (by simp [strV, Value.oneCell']) (by unfold maxLen; omega) (by omega) (by simp; omega) ?_
  · intro j y hj
    have e : (Addr.add ⟨W.heap.size, 0, none⟩ j) = ⟨W.heap.size, j, none⟩ := by unfold Addr.add; split <;> simp_all
    rw [e, cell_of_row _ _ _ _ _ _ (MapKept.heap_alloc W _).1]
    simpa using hj
  · intro v' w' h2 hg _
    refine h v' w' ?_ ((World.grownBy_alloc W _ _).trans hg)
    unfold OwnS; rw [List.length_append]; exact h2
set_option maxRecDepth 100000 in
set_option maxHeartbeats 8000000 in
theorem Reset_no {w : World} {bj bd : Nat} {j : JrnS} (v : Value) (ls : List (List UInt8)) (h : JAt w bj bd j) (hs : StrS w v ls) (hl : ∀ p ∈ ls, p.length ≤ 140737488355328) (ho : j.Ok) (hcl : j.closed = false) (he : j.epoch < 4611686018427387904) (hll : ls.length ≤ 4000000000) (hr : resC j.half ls ≠ 0) :
    Calls Tryz.prog 22 #[.pointer (some ⟨bj, 0, none⟩), v] w fun e w' => (∃ v, e = .returned v ∧ ErrIs w' v (resC j.half ls) 0) ∧ Q w w' := by
  have HJ := Lib.hid h
  have HS := Lib.hid hs
  have HL := Lib.hid hl
  have HF := Lib.hid jfault_any
  have ho1 := ho.place
  have hlz : (ls.length : Int) ≤ 4000000000 := by omega
  have HO := Lib.hid ho
  obtain ⟨A, cap, rfl, hst, hty⟩ := hs
  obtain ⟨N, hN⟩ : ∃ N, ls.length = N := ⟨_, rfl⟩
  have HN := Lib.hid hN
  rw [hN] at hll hlz HS ⊢
  obtain ⟨R, hR⟩ : ∃ R, resC j.half ls = R := ⟨_, rfl⟩
  rw [hR] at hr ⊢
  unfold resC at hR
  have HRR := Lib.hid hR
  have HR0 := Lib.hid hr
  have c7 := h.c7
  have c4 := h.c4
  rw [hcl] at c7
  have g0 : decide (4611686018427387904 ≤ (j.epoch : Int)) = false := by simp; omega
  have he2 : (j.epoch : Int) < 4611686018427387904 := by omega
  have HOS0 := Lib.hid (OwnS.nil 9 w w)
  clear h hl ho hst hty hN hcl he hR hr
  go_enter Tryz.func22, Tryz.ntmps22
  go_wp2_with fail
  go_loopw [5, 6, 25] (fun lv zv iv wr => ∃ (i z : Nat), i ≤ N ∧ z ≤ 1000 * i ∧ zv = .int .i64 (z : Int) ∧ iv = .int .i64 (i : Int) ∧ Hid (z = wantS (ls.take i)) ∧ Hid (bigL (ls.take i) = false) ∧ Hid (OwnS 9 w wr lv ((packsL (j.epoch + 1) 0 (ls.take i)).map strV)) ∧ Hid (JAt wr bj bd j) ∧ Hid (Q w wr)) (fun _ _ iv _ => N - (intOf iv).toNat)
  case atStart => exact ⟨0, 0, by omega, by omega, rfl, rfl, rfl, rfl, HOS0.out, HJ.out, Q.refl _⟩
  case round =>
    obtain ⟨i, z, hi, hz, rfl, rfl, HZZ, HBG, HOS, HD, HQ⟩ := hrel
    by_cases hlt : i < N
    · have g1 : decide (i < N) = true := decide_eq_true hlt
      obtain ⟨A2, cap2, e2, hst, hty⟩ := HS.out.q HQ.out
      have hst2 : StrsAt wr A N ls := by rw [← HN.out]; injection e2 with e2 _ _; rw [e2]; exact hst
      obtain ⟨ad, rfl, hc⟩ := hst2.at hlt
      have hln := HN.out
      have hil : i < ls.length := by omega
      have hbo := bigL_of hil
      have htk := take_one hil
      have hpl := HL.out _ (gL_mem hil)
      obtain ⟨p, hp⟩ : ∃ s, gL ls i = s := ⟨_, rfl⟩
      rw [hp] at hc hbo htk hpl
      have c4 := HD.out.c4
      have hib : (i : Int) ≤ 4000000000 := by omega
      by_cases hbig : 60000 < p.length
      · have hr2 := HRR.out
        rw [hbo hbig, if_pos rfl] at hr2
        have HR1 := Lib.hid hr2
        have HPK := Lib.hid (fun w' => Pack_bad ((j.epoch : Int) + 1) ((i : Int) + 1) p w' (by omega) (.inr hbig))
        clear hr2 hbo htk hpl hp hil hln hst hty hst2 e2 hbig HOS
        go_wp2_with fail
        refine (HPK.out _).mono ?_
        rintro e w1 ⟨ev, rfl, hev, hq⟩
        rcases hev with ⟨h0, _⟩ | ⟨_, b, rfl, _⟩
        · exact absurd h0 (by decide)
        have HQ1 := Lib.hid (HQ.out.trans hq)
        clear hq HPK c4
        go_wp2_with fail
        refine (HF.out 1 _ (by decide)).mono ?_
        rintro e w3 ⟨⟨v, rfl, hv⟩, hq3⟩
        have HQ3 := Lib.hid (HQ1.out.trans hq3)
        clear hq3
        go_wp2_with fail
        go_ret
        exact ⟨⟨v, rfl, by rw [← HR1.out]; exact hv⟩, HQ3.out⟩
      have hbt : bigL (ls.take (i + 1)) = false := by rw [htk, bigL_snoc, HBG.out, decide_eq_false hbig]; rfl
      have hwn : wantN p ≤ 1000 := by unfold wantN; omega
      have hz2 : z + wantN p = wantS (ls.take (i + 1)) := by rw [htk, wantS_snoc, HZZ.out]
      have hll2 : ((packsL (j.epoch + 1) 0 (ls.take i)).map strV).length + 1 ≤ 8796093022208 := by rw [List.length_map, packsL_len, List.length_take]; omega
      have hps : packsL (j.epoch + 1) 0 (ls.take (i + 1)) = packsL (j.epoch + 1) 0 (ls.take i) ++ [packL ((j.epoch : Int) + 1) ((i : Int) + 1) p] := by
        rw [htk, packsL_snoc, List.length_take, show min i ls.length = i by omega, Nat.zero_add]; rfl
      have HPS := Lib.hid hps
      have HZ2 := Lib.hid hz2
      have HB2 := Lib.hid hbt
      have HLL := Lib.hid hll2
      have hlen := packL_len64 ((j.epoch : Int) + 1) ((i : Int) + 1) p
      have HPK := Lib.hid (Pack_ok ((j.epoch : Int) + 1) ((i : Int) + 1) p wr (by omega) (decide_eq_true ⟨by omega, by omega, by omega, by omega⟩))
      obtain ⟨s, hs⟩ : ∃ s, packL ((j.epoch : Int) + 1) ((i : Int) + 1) p = s := ⟨_, rfl⟩
      rw [hs] at HPK HPS hlen
      have hdv : (s.length : Int) / 64 = (wantN p : Int) := by omega
      have hz4 : (z : Int) + (wantN p : Int) ≤ 8796093022209000 := by omega
      clear hst hty hst2 e2 hln htk hpl hp hz2 hll2 hps hlen hs HZZ hbo hbt hbig hil
      go_wp2_with fail
      refine HPK.out.mono ?_
      rintro e w1 ⟨rfl, hq⟩
      have HD1 := Lib.hid (HD.out.q hq)
      have HQ1 := Lib.hid (HQ.out.trans hq)
      have HO1 := Lib.hid (HOS.out.q hq)
      clear hq HD HQ HOS HPK c4
      go_upto_region 14 with (at_builtin; refine wpList_append_sb rfl (.tmp 45) (.tmp 47) rfl w w1 _ _ s (by rfl) HO1.out (by rfl) (by exact HQ1.out.size) HLL.out ?_; intro v5 w5 ho5 hg5)
      have HO5 : Hid (OwnS 9 w w5 v5 ((packsL (j.epoch + 1) 0 (ls.take (i + 1))).map strV)) := Lib.hid (by rw [HPS.out, List.map_append]; exact ho5)
      have HD5 : Hid (JAt w5 bj bd j) := Lib.hid (by
        unfold JAt
        rw [hg5.block bj (lt_of_heap HD1.out) (fun e => by
          obtain ⟨_, ht⟩ := OwnS.type HO1.out e.symm
          rw [elemT_of HD1.out] at ht; revert ht; decide)]; exact HD1.out)
      have HQ5 := Lib.hid (gb_q_own hg5 HQ1.out (fun k hk => HO1.out.block hk))
      clear ho5 hg5 HD1 HQ1 HO1
      go_wp2_with fail
      go_roundw
      case rel => exact ⟨i + 1, z + wantN p, by omega, by omega, by go_num, by go_num, HZ2.out, HB2.out, HO5.out, HD5.out, HQ5.out⟩
      case measure => simp [intOf]; omega
    · have g1 : decide (i < N) = false := decide_eq_false hlt
      obtain rfl : i = N := by omega
      rw [List.take_of_length_le (by rw [HN.out]; exact Nat.le_refl _)] at HZZ HOS HBG
      have hr2 := HRR.out
      rw [HBG.out, if_neg (by decide), ← HZZ.out] at hr2
      have hf : j.half - 1 < z := by
        by_cases hf : j.half - 1 < z
        · exact hf
        · rw [if_neg hf] at hr2; exact absurd hr2.symm HR0.out
      rw [if_pos hf] at hr2
      have HR1 := Lib.hid hr2
      have g2 : decide (j.half - 1 < z) = true := decide_eq_true hf
      have HHF := Lib.hid (Half_any HD.out HO.out)
      obtain ⟨h1, hh1⟩ : ∃ h, j.half - 1 = h := ⟨_, rfl⟩
      rw [hh1] at HHF g2
      have hzb : (z : Int) ≤ 8796093022208000 := by omega
      clear hr2 hf hh1 HZZ hlt HOS
      go_wp2_with fail
      refine HHF.out.mono ?_
      rintro e w1 ⟨rfl, rfl⟩
      go_wp2_with fail
      refine (HF.out 12 _ (by decide)).mono ?_
      rintro e w3 ⟨⟨v, rfl, hv⟩, hq3⟩
      have HQ3 := Lib.hid (HQ.out.trans hq3)
      clear hq3
      go_wp2_with fail
      go_ret
      exact ⟨⟨v, rfl, by rw [← HR1.out]; exact hv⟩, HQ3.out⟩
end Go.Proofs.YtcbepjepcabllaaGreatDoor
/- Open with the power gone. -/
set_option linter.unusedVariables false
set_option linter.unusedSimpArgs false
namespace Go.Proofs.YtcbepjepcabllaaGreatDoor
open Go Go.RowKit
set_option maxRecDepth 100000 in
set_option maxHeartbeats 4000000 in
theorem load_gone {w0 w : World} {bj bd bp gh : Nat} {j : JrnS} {d : DskS} (sec : Bool) (h : JD w0 w bj bd bp gh j d) (hh : 1 ≤ j.half) (hp : j.first + 2 * j.half ≤ d.n) (hw : d.wait.length ≤ 900000) (hg : d.gone = true) :
    Calls Tryz.prog 50 #[.pointer (some ⟨bj, 0, none⟩), .bool sec] w fun e w' => (∃ b, e = .returned (.tuple #[.string ⟨#[]⟩, .iface 84 (.pointer (some ⟨b, 0, none⟩))]) ∧ FaultAt w' b 10 0) ∧ Q w w' := by
  have HJ := Lib.hid h
  have hn8 := h.d.ok.most
  have c2 := h.j.c2
  have c0 := h.j.c0
  obtain ⟨m, hm⟩ : ∃ m, j.half = m := ⟨_, rfl⟩
  have hbd : j.first + m + 0 ≤ 1000000 := by omega
  rw [hm] at c2 hp hh
  have hmi : (m : Int) ≤ 8192 := by omega
  have g1 : decide ((0 : Int) < (m : Int)) = true := decide_eq_true (by omega)
  have hm0 : (0 : Int) < (m : Int) := by omega
  have hm1 : 0 < m := by omega
  have HAT := Lib.hid (fun w' (hq : Q w w') => at_any (h.j.q hq) sec 0 (by rw [hm]; exact hbd))
  have HRD := Lib.hid (fun w' (hq : Q w w') => Read_any (atJ j sec 0 : Int) (h.d.q hq) (by omega))
  have hrc : readyC d (atJ j sec 0 : Int) = 10 := by unfold readyC; rw [hg]; rfl
  have k0 : ∀ m : QW w, m.val.cell? ⟨bj, 0, none⟩ = some (.pointer (some ⟨bd, 0, none⟩)) := fun m => m.cell c0
  rw [hrc] at HRD
  have hrl : readD d (atJ j sec 0 : Int) = [] := by
    unfold readD
    rw [if_neg (by rw [hrc]; decide)]
  rw [hrl] at HRD
  obtain ⟨A, hA⟩ : ∃ A, atJ j sec 0 = A := ⟨_, rfl⟩
  rw [hA] at HAT HRD
  clear h hm hg hrc hrl hA c0 hbd hp hh
  go_enter Tryz.func50, Tryz.ntmps50
  go_wp2_with fail
  clear c2
  refine wp_loop_rounds 1 ?_
  rw [rounds_succ]
  go_upto_region 5 with (fail)
  refine wp_region_noPanic ?_
  refine wp_plan [([0, 1, 2, 3, 4, 5, 6], [7, 8]), ([9, 10, 11, 12, 13], [])] (by kernel_rfl) (by kernel_rfl) (fun _ _ _ _ _ h => h) ?_
  simp only [wpPlan, wpListK, List.map_cons, List.map_nil, Array.getD_eq_getD_getElem?, List.getElem?_toArray, List.getElem?_cons_succ, List.getElem?_cons_zero, Option.getD_some]
  (repeat (go_big_quiet_step (fail)))
  refine wpQuiet_nil ?_
  clear k0
  obtain ⟨Wd, hWd⟩ : ∃ W, w.drew = W := ⟨_, rfl⟩
  have hqd : Q w Wd := by rw [← hWd]; exact (Q.refl w).drew
  rw [hWd]
  clear hWd
  have HQd := Lib.hid hqd
  clear hqd
  intro K hK
  go_wp2_with fail
  refine (HAT.out _ HQd.out).mono ?_
  rintro e w1 ⟨rfl, rfl⟩
  go_wp2_with fail
  refine hK.out _ _ ⟨⟨_, HQd.out⟩, rfl⟩ ?_
  clear hK K
  intro K hK
  go_wp2_with fail
  refine (HRD.out _ HQd.out).mono ?_
  rintro e w1 ⟨⟨v, rfl, hv⟩, hq⟩
  rcases hv with ⟨h0, _⟩ | ⟨_, b, rfl, hf⟩
  · exact absurd h0 (by decide)
  have HQ1 := Lib.hid (HQd.out.trans hq)
  have HF := Lib.hid hf
  clear hq hf
  go_wp2_with fail
  refine hK.out _ _ ⟨⟨_, HQ1.out⟩, rfl⟩ ?_
  clear hK K
  (repeat (go_big_quiet_step (fail)))
  refine wpQuiet_nil ?_
  refine NoPanic.normal ?_
  go_wp2_with fail
  go_ret2
  exact ⟨⟨b, rfl, HF.out⟩, HQ1.out⟩
set_option maxRecDepth 100000 in
set_option maxHeartbeats 4000000 in
theorem Open_gone {w0 w : World} {bd bp gh : Nat} {d : DskS} (f half : Nat) (h : DAt w0 w bd bp gh d) (hh : 2 ≤ half) (hn : f + 2 * half ≤ d.n) (h0 : w0.heap.size ≤ w.heap.size) (hw : d.wait.length ≤ 900000) (hg : d.gone = true) (het : ErrT w) :
    Calls Tryz.prog 21 #[.pointer (some ⟨bd, 0, none⟩), .int .i64 (f : Int), .int .i64 ((2 * half : Nat) : Int)] w fun e w' => (∃ b, e = .returned (.tuple #[.pointer none, .slice none 0 0, .iface 84 (.pointer (some ⟨b, 0, none⟩))]) ∧ WrapAt w' b 10) ∧ Q w w' := by
  have HB := Lib.hid (begin_ok f half h hh hn h0)
  have HLD := Lib.hid (fun (bj : Nat) (w' : World) (hj : JD w0 w' bj bd bp gh (jrn0 f half) d) => load_gone false hj (by show 1 ≤ half; omega) hn hw hg)
  have HET := Lib.hid het
  obtain ⟨s, hs⟩ : ∃ s, s = 2 * half := ⟨_, rfl⟩
  rw [← hs] at HB ⊢
  clear h hh hn hs hg het
  go_enter Tryz.func21, Tryz.ntmps21
  go_wp2_with fail
  refine HB.out.mono ?_
  rintro e w1 ⟨⟨bj, rfl, hj1, hbj⟩, hq1⟩
  have HJ1 := Lib.hid hj1
  have HQ1 := Lib.hid hq1
  clear hj1 hq1 HB
  go_wp2_with fail
  refine (HLD.out bj w1 HJ1.out).mono ?_
  rintro e w2 ⟨⟨b, rfl, hf⟩, hq2⟩
  have HF := Lib.hid hf
  have HQ2 := Lib.hid (HQ1.out.trans hq2)
  clear hq2 hf HJ1 HQ1
  go_wp2_with fail
  refine (jwrap_any b 10 w2 HF.out (HET.out.q HQ2.out)).mono ?_
  rintro e w3 ⟨⟨b', rfl, hb'⟩, hq3⟩
  have HW := Lib.hid hb'
  have HQ3 := Lib.hid (HQ2.out.trans hq3)
  clear hb' hq3
  go_wp2_with fail
  go_ret3
  exact ⟨⟨b', rfl, HW.out⟩, HQ3.out⟩
end Go.Proofs.YtcbepjepcabllaaGreatDoor
