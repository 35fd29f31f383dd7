/- Texts of this proof, laid into one: PbB, PbC, PbD, PbE. -/
import Derived.Test.YtbhgekhcpagkoaaDoorMh13
import Derived.Deep.DeepCutAuto
/- PartsWhole. -/
set_option linter.unusedVariables false
set_option linter.unusedSimpArgs false
namespace Go.Proofs.YtbhgekhcpagkoaaDoor
open Go Go.RowKit
/-- The slice holds these bools. -/
def BoolsAt (w : World) (A : Option Addr) (n : Nat) (bs : List Bool) : Prop :=
  n = bs.length ∧ (0 < n → ∃ g off, A = some ⟨g, off, none⟩ ∧ ∀ i (h : i < bs.length), w.cell? ⟨g, off + i, none⟩ = some (.bool bs[i]))
theorem BoolsAt.q {w w' : World} {A : Option Addr} {n : Nat} {bs : List Bool} (h : BoolsAt w A n bs) (hq : Q w w') : BoolsAt w' A n bs :=
  ⟨h.1, fun h0 => let ⟨g, off, e, hc⟩ := h.2 h0; ⟨g, off, e, fun i hi => hq.cell (hc i hi)⟩⟩
theorem BoolsAt.at {w : World} {A : Option Addr} {n : Nat} {bs : List Bool} (h : BoolsAt w A n bs) {i : Nat} (hi : i < n) : ∃ g off, A = some ⟨g, off, none⟩ ∧ w.cell? ⟨g, off + i, none⟩ = some (.bool (bs.getD i false)) := by
  obtain ⟨g, off, e, hc⟩ := h.2 (by omega)
  have hi' : i < bs.length := by rw [← h.1]; exact hi
  refine ⟨g, off, e, ?_⟩
  rw [hc i hi']; simp [List.getD, hi']
theorem PartsAt.z {w : World} {g n : Nat} {ps : List PartD} (h : PartsAt w (some ⟨g, 0, none⟩) n ps) {j : Nat} (hj : j < n) :
    w.cell? ⟨g, j * 5, none⟩ = some (.int .i64 (gP ps j).num) ∧ w.cell? ⟨g, j * 5 + 1, none⟩ = some (.int .i64 (gP ps j).size) ∧ w.cell? ⟨g, j * 5 + 2, none⟩ = some (.int .i64 (gP ps j).time) ∧
    w.cell? ⟨g, j * 5 + 3, none⟩ = some (.string ⟨(gP ps j).tag.toArray⟩) ∧ w.cell? ⟨g, j * 5 + 4, none⟩ = some (.int .i64 (gP ps j).blob) := by
  obtain ⟨g', off, e, c⟩ := h.at hj
  cases e
  simpa only [Nat.zero_add] using c
def wantB (bs : List Bool) (i : Nat) : Bool := decide (bs.length ≤ i) || bs.getD i false
set_option maxRecDepth 100000 in
set_option maxHeartbeats 8000000 in
theorem PartsWhole_any (A : Option Addr) (n cap : Nat) (ps : List PartD) (B : Option Addr) (m capb : Nat) (bs : List Bool) (now : Int) (w : World) (h : PartsAt w A n ps) (hok : OkP ps) (hn : n ≤ 2932031007402) (hB : BoolsAt w B m bs) (hm : m ≤ 9223372036854775807) (ht : Tab w) :
    Calls Tryd.prog 4 #[.slice A n cap, .slice B m capb, .int .i64 now] w fun e w' => e = .returned (.bool true) ∧ Q w w' := by
  have HP := Lib.hid h
  have HB := Lib.hid hB
  have HT := Lib.hid ht
  have HM := Lib.hid hB.1
  have HN := Lib.hid (numL_ok ps)
  clear h hB ht hok
  go_enter Tryd.func4, Tryd.ntmps4
  go_wp2_with fail
  refine (examples_any _ HT.out).mono ?_
  rintro e w1 ⟨rfl, hq1⟩
  go_wp2_with fail
  refine (numbered_any A n cap ps w1 (HP.out.q hq1) hn).mono ?_
  rintro e w2 ⟨⟨v2, rfl, ho2⟩, hq2⟩
  obtain ⟨L, hL⟩ : ∃ L, numL ps = L := ⟨_, rfl⟩
  rw [hL] at ho2 HN
  have HQ2 := Lib.hid (hq1.trans hq2)
  obtain ⟨A2, c2, hv2, hl2, hc2, hP2, hown⟩ := ho2.parts
  subst hv2
  obtain ⟨k2, hk2⟩ : ∃ k, k = L.length := ⟨_, rfl⟩
  rw [← hk2] at hP2 hl2 ⊢
  have HK := Lib.hid hk2
  have HL := Lib.hid hP2
  have HOWN := Lib.hid hown
  have hk20 : k2 ≤ 20 := by rw [hk2]; exact HN.out.len
  have hcap : Hid (k2 ≤ c2 ∧ c2 ≤ 9223372036854775807) := And.intro hl2 hc2
  clear hq1 hq2 ho2 hl2 hc2 hP2 hk2 hL HP hown
  go_wp2_with fail
  go_loopw [9, 10, 11] (fun v s i wr => ∃ k : Nat, k ≤ k2 ∧ i = .int .i64 (k : Int) ∧ s = .int .i64 (sizeS (selK (wantB bs) L k)) ∧ Hid (OwnP w2 wr v (selK (wantB bs) L k)) ∧ Hid (Q w2 wr)) (fun _ _ i _ => k2 - (intOf i).toNat)
  case atStart => exact ⟨0, by omega, rfl, rfl, OwnP.nil _ _, Q.refl _⟩
  case round =>
    obtain ⟨k, hk, rfl, rfl, HO, HQ⟩ := hrel
    by_cases hlt : k < k2
    · have g1 : decide (k < k2) = true := by simpa using hlt
      have hS := HN.out.sizes (S := wantB bs) k (by have := HK.out; omega)
      obtain ⟨x, hx⟩ : ∃ x, sizeS (selK (wantB bs) L k) = x := ⟨_, rfl⟩
      have HX := Lib.hid hx
      rw [hx] at hS ⊢
      have hz := HN.out.size k (by have := HK.out; omega)
      have hx0 : 0 ≤ x ∧ x ≤ 160000 := by omega
      have HLr := Lib.hid (HL.out.q HQ.out)
      obtain ⟨g, off, rfl, c0, c1, c2, c3, c4⟩ := HLr.out.at hlt
      have h0 := (HOWN.out _ _ rfl).1
      subst h0
      rw [Nat.zero_add] at c0 c1 c2 c3 c4
      clear hx hS
      by_cases hmk : m ≤ k
      · have g2 : decide (m ≤ k) = true := decide_eq_true hmk
        have HW : Hid (wantB bs k = true) := Lib.hid (by unfold wantB; rw [← HM.out, g2]; rfl)
        clear hmk
        go_wp2_with (at_builtin; refine wpList_append_p rfl (.tmp 36) (.tmp 41) rfl w2 wr _ (selK (wantB bs) L k) (gP L k) (by rfl) HO.out (by rfl) HQ.out (by have := selK_len (wantB bs) L k; omega) ?_; intro v5 w5 ho5 hq5 _; have HO5 := Lib.hid ho5; have HQ5 := Lib.hid hq5; clear ho5 hq5; obtain ⟨_, e1, _⟩ := (HL.out.q HQ5.out).z hlt; clear c0 c1 c2 c3 c4)
        go_roundw
        case rel => exact ⟨k + 1, hlt, by go_num, by rw [selK_yes HW.out, sizeS_app, HX.out], by rw [selK_yes HW.out]; exact HO5.out, HQ5.out⟩
        case measure => simp [intOf]; omega
      · have g2 : decide (m ≤ k) = false := decide_eq_false hmk
        have hkm : k < m := by omega
        obtain ⟨gb, offb, rfl, hb⟩ := (HB.out.q (HQ2.out.trans HQ.out)).at hkm
        cases hbk : bs.getD k false with
        | true =>
          have HW : Hid (wantB bs k = true) := Lib.hid (by unfold wantB; rw [hbk, Bool.or_true])
          rw [hbk] at hb
          clear hmk hbk
          go_wp2_with (at_builtin; refine wpList_append_p rfl (.tmp 36) (.tmp 41) rfl w2 wr _ (selK (wantB bs) L k) (gP L k) (by rfl) HO.out (by rfl) HQ.out (by have := selK_len (wantB bs) L k; omega) ?_; intro v5 w5 ho5 hq5 _; have HO5 := Lib.hid ho5; have HQ5 := Lib.hid hq5; clear ho5 hq5; obtain ⟨_, e1, _⟩ := (HL.out.q HQ5.out).z hlt; clear c0 c1 c2 c3 c4 hb)
          go_roundw
          case rel => exact ⟨k + 1, hlt, by go_num, by rw [selK_yes HW.out, sizeS_app, HX.out], by rw [selK_yes HW.out]; exact HO5.out, HQ5.out⟩
          case measure => simp [intOf]; omega
        | false =>
          have HW : Hid (wantB bs k = false) := Lib.hid (by unfold wantB; rw [hbk, Bool.or_false, ← HM.out, g2])
          rw [hbk] at hb
          clear hmk hbk c0 c1 c2 c3 c4
          go_wp2_with fail
          go_roundw
          case rel => exact ⟨k + 1, hlt, by go_num, by rw [selK_no HW.out, HX.out], by rw [selK_no HW.out]; exact HO.out, HQ.out⟩
          case measure => simp [intOf]; omega
    · have g1 : decide (k < k2) = false := by simpa using hlt
      obtain rfl : k = k2 := by omega
      obtain ⟨som, hsom⟩ : ∃ x, selK (wantB bs) L k = x := ⟨_, rfl⟩
      obtain ⟨x, hx⟩ : ∃ x, sizeS som = x := ⟨_, rfl⟩
      have HC0 := Lib.hid (HN.out.comp0 (S := wantB bs) (k := k) (by have := HK.out; omega))
      have HC1 := Lib.hid (HN.out.comp (S := wantB bs) (k := k) (by have := HK.out; omega))
      have HE1 := Lib.hid (HN.out.etag (S := wantB bs) (k := k) (by have := HK.out; omega))
      have HPK := Lib.hid (HN.out.pick (S := wantB bs) (k := k) (by have := HK.out; omega))
      have HOK := Lib.hid (HN.out.okp (S := wantB bs) (k := k) (by have := HK.out; omega))
      have HSL := Lib.hid (selK_len (wantB bs) L k)
      rw [hsom] at HO HC0 HC1 HE1 HPK HOK HSL ⊢
      rw [hx]
      have HX := Lib.hid hx
      clear hsom hx hlt
      obtain ⟨A9, c9, hv9, hl9, hc9, hP9, hown9⟩ := HO.out.parts
      have HOWN9 := Lib.hid hown9
      clear hown9
      subst hv9
      obtain ⟨ns, hns⟩ : ∃ k, k = som.length := ⟨_, rfl⟩
      rw [← hns] at hP9 hl9 HC0 HC1 HE1 HSL ⊢
      have HNS := Lib.hid hns
      have HL9 := Lib.hid (HL.out.q HQ.out)
      have HP9 := Lib.hid hP9
      clear hns hP9 hc9 hl9 HO
      have hCo : Calls Tryd.prog 12 #[upV ⟨0, [], [], [116], [], 0⟩ (.slice A2 k c2), .slice A9 ns c9, .int .i64 now] wr _ := Complete_any ⟨0, [], [], [116], [], 0⟩ A2 A9 k c2 ns c9 L som now wr HL9.out HP9.out HN.out.ok (HT.out.q (HQ2.out.trans HQ.out)) (by omega) (by have := HSL.out; omega) hcap.out
      unfold upV upL at hCo
      simp only at hCo
      go_wp2_with fail
      refine hCo.mono ?_
      clear hCo
      intro e w4 hcp
      obtain ⟨⟨v4, rfl, ho4⟩, hq4⟩ := CompPost.all hcp
      obtain ⟨A4, c4, hv4, hl4, hc4, hP4⟩ := ho4.slice
      subst hv4
      obtain ⟨nz, hnz⟩ : ∃ k, k = (compZ L som).length := ⟨_, rfl⟩
      rw [← hnz] at hP4 hl4 ho4 ⊢
      obtain ⟨V, hV⟩ : ∃ V, compU [116] L som now = V := ⟨_, rfl⟩
      obtain ⟨ce, hce⟩ : ∃ V, compE L som = V := ⟨_, rfl⟩
      rw [hV, hce] at hcp ⊢
      have HV := Lib.hid hV
      have HCE := Lib.hid hce
      have HNZ := Lib.hid hnz
      obtain ⟨sq, nl, mk, tg, ty, sz, tm⟩ := V
      obtain ⟨hb8, hq8⟩ := BoxV.make w4 ⟨sq, nl, mk, tg, ty, sz, tm⟩ (.slice A4 nz c4)
      have hbn := BoxV.new w4 zV (.slice none 0 0)
      obtain ⟨N8, hN8⟩ : ∃ G, w4.heap.size = G := ⟨_, rfl⟩
      rw [hN8] at hb8 hq8 hbn
      obtain ⟨W8, hW8⟩ : ∃ W, w4.alloc (.cells (verL zV (.slice none 0 0)).toArray 37) = W := ⟨_, rfl⟩
      rw [hW8] at hb8 hq8 hbn
      have hW8b : w4.alloc (.cells #[.int .i64 0, .bool false, .bool false, .string ⟨#[]⟩, .string ⟨#[]⟩, .int .i64 0, .int .i64 0, .slice none 0 0] 37) = W8 := hW8
      have HP8 := Lib.hid (HP9.out.q (hq4.trans hq8))
      have HZ8 := Lib.hid (hP4.q hq8)
      have HQ8 := Lib.hid ((HQ2.out.trans HQ.out).trans (hq4.trans hq8))
      clear hW8 hq4 hq8 ho4 hP4 hc4 hl4 hV hce hnz hcp HP9 HL9
      unfold verV
      go_upto_region 12 with (refine wpList_store_row rfl 37 _ _ rfl N8 (verL ⟨sq, nl, mk, tg, ty, sz, tm⟩ (.slice A4 nz c4)).toArray (by rfl) (by rfl) 37 _ hbn infoV rfl (verL_one _ _ rfl) ?_)
      obtain ⟨W9, hW9⟩ : ∃ W, W8.setRow N8 (verL ⟨sq, nl, mk, tg, ty, sz, tm⟩ (.slice A4 nz c4)).toArray = W := ⟨_, rfl⟩
      rw [hW9] at hb8 HP8 HZ8 HQ8 ⊢
      have HB9 := Lib.hid hb8
      clear hW9 hbn hN8 hW8b hb8
      by_cases h0 : ns = 0
      · have hce : ce = 89 := by rw [← HCE.out]; exact HC0.out h0
        subst hce
        have g3 : ((ns : Int) == 0) = true := by simp; omega
        clear h0
        go_wp2_with fail
        go_ret
        exact ⟨rfl, HQ8.out⟩
      · have hc0 := HC1.out h0
        have hce : ce = 0 := by rw [← HCE.out]; exact hc0
        subst hce
        have hV := HV.out
        unfold compU at hV
        rw [if_pos hc0, HPK.out] at hV
        unfold compV at hV
        injection hV with e1 e2 e3 e4 e5 e6 e7
        subst e1 e2 e3 e4 e5 e6 e7
        have hz : compZ L som = som.map (·.blob) := by unfold compZ; rw [if_pos hc0, HPK.out]
        have hnz : nz = ns := by rw [HNZ.out, hz, List.length_map, HNS.out]
        subst hnz
        rw [hz] at HZ8
        rw [HX.out] at HB9 ⊢
        have g3 : ((nz : Int) == 0) = false := by simp; omega
        have k0 := HB9.out.cs 0 _ rfl
        have k1 := HB9.out.cs 1 _ rfl
        have k2 := HB9.out.cs 2 _ rfl
        have k4 := HB9.out.cs 4 _ rfl
        have k5 := HB9.out.cs 5 _ rfl
        have k6 := HB9.out.cs 6 _ rfl
        have k7 := HB9.out.cs 7 _ rfl
        have HEB := Lib.hid (HE1.out h0)
        clear h0 hc0 hz HV HC0 HC1 HE1
        have hnz20 : nz ≤ 20 := by have := HSL.out; omega
        go_wp2_with fail
        clear k0 k1 k2 k4 k5 k6 k7
        go_loopw [14] (fun i wr => ∃ k : Nat, k ≤ nz ∧ i = .int .i64 (k : Int) ∧ Hid (Q W9 wr)) (fun i _ => nz - (intOf i).toNat)
        case atStart => exact ⟨0, by omega, rfl, Q.refl _⟩
        case round =>
          obtain ⟨j, hj, rfl, HQr⟩ := hrel
          by_cases hlt : j < nz
          · have g1 : decide (j < nz) = true := by simpa using hlt
            have HBr := HB9.out.q HQr.out
            have k7 := HBr.cs 7 _ rfl
            have kb7 : ∀ m : QW wr, m.val.cell? ⟨N8, 7, none⟩ = some (.slice A4 nz c4) := fun m => m.cell k7
            obtain ⟨g4, rfl, _, hcz⟩ := (HZ8.out.q HQr.out).2 (by omega)
            have hjs : j < som.length := by rw [← HNS.out]; exact hlt
            have hcj := hcz j (by rw [List.length_map]; exact hjs)
            rw [List.getElem_map, ← gP_eq som j hjs] at hcj
            have kz : ∀ m : QW wr, m.val.cell? ⟨g4, j, none⟩ = some (.int .i64 (gP som j).blob) := fun m => m.cell hcj
            obtain ⟨g9, off9, rfl, _, _, _, _, d4⟩ := (HP8.out.q HQr.out).at hlt
            have h0 := (HOWN9.out _ _ rfl).1
            subst h0
            rw [Nat.zero_add] at d4
            have kd4 : ∀ m : QW wr, m.val.cell? ⟨g9, j * 5 + 4, none⟩ = some (.int .i64 (gP som j).blob) := fun m => m.cell d4
            clear hcz hcj d4 hjs HBr
            go_wp2_with fail
            refine wp_region_q (by kernel_rfl) (by kernel_rfl) ?_
            (repeat (go_big_quiet_step (fail)))
            refine wpQuiet_nil ?_
            rintro wa ⟨ma, hma⟩
            have hqa : Q wr wa := by rw [hma]; exact ma.le
            have HQa := Lib.hid (HQr.out.trans hqa)
            clear hma ma hqa k7 kb7 kz kd4
            go_wp2_with fail
            go_roundw
            case rel => exact ⟨j + 1, hlt, by go_num, HQa.out⟩
            case measure => simp [intOf]; omega
          · have g1 : decide (j < nz) = false := by simpa using hlt
            have hE := (ETag_any A9 nz c9 som wr (HP8.out.q HQr.out) HOK.out (HT.out.q (HQ8.out.trans HQr.out)) (by omega)).mono fun e w2 hc => ETagPost.allE hc
            rw [HEB.out] at hE
            have es : etagS som = etagL som := by unfold etagS; rw [HEB.out]; rfl
            rw [es] at hE
            obtain ⟨s1, s2, s3⟩ := etag_shape som (by rw [← HNS.out]; exact hnz20)
            have HE := Lib.hid hE
            have HB10 := Lib.hid (HB9.out.q HQr.out)
            have HQ10 := Lib.hid (HQ8.out.trans HQr.out)
            obtain ⟨T, hT⟩ : ∃ T, etagL som = T := ⟨_, rfl⟩
            rw [hT] at s1 s2 s3 HE HB10
            clear hE es hT HB9 HQ8 HQr
            go_wp2_with fail
            refine HE.out.mono ?_
            rintro e w11 ⟨rfl, hq11⟩
            rw [show putE true = 0 from rfl]
            have k3 := (HB10.out.q hq11).cs 3 _ rfl
            have HQ11 := Lib.hid (HQ10.out.trans hq11)
            have g2 : decide ((34 : Int) ≤ (T.length : Int)) = true := by simp; omega
            clear hq11 HE HB10 HQ10
            go_wp2_with fail
            go_ret
            exact ⟨rfl, HQ11.out⟩
end Go.Proofs.YtbhgekhcpagkoaaDoor
/- Parts put in whatever order: plain. -/
set_option linter.unusedVariables false
set_option linter.unusedSimpArgs false
namespace Go.Proofs.YtbhgekhcpagkoaaDoor
open Go Go.RowKit
def sel (S : Nat → Bool) (L : List PartD) : List PartD := selK S L L.length
theorem selK_congr {S T : Nat → Bool} {L : List PartD} {k : Nat} (h : ∀ i, i < k → S i = T i) : selK S L k = selK T L k := by
  unfold selK
  rw [List.filter_congr (fun i hi => h i (List.mem_range.1 hi))]
theorem sel_full {S : Nat → Bool} {L : List PartD} (h : ∀ i, i < L.length → S i = true) : sel S L = L := by
  have := selK_all L
  unfold sel
  rwa [selK_congr (T := fun _ => true) (fun i hi => h i hi)]
theorem sel_none {S : Nat → Bool} {L : List PartD} (h : ∀ i, i < L.length → S i = false) : sel S L = [] := by
  unfold sel
  rw [selK_congr (T := fun _ => false) (fun i hi => h i hi)]
  simp [selK]
/-- What stands behind the j-th. -/
def selB (S : Nat → Bool) (L : List PartD) (j : Nat) : List PartD := (((List.range (L.length - (j + 1))).map (fun i => j + 1 + i)).filter S).map (gP L)
theorem sel_split (S : Nat → Bool) (L : List PartD) {j : Nat} (hj : j < L.length) : sel S L = selK S L j ++ (if S j then [gP L j] else []) ++ selB S L j := by
  have e : List.range L.length = List.range j ++ [j] ++ (List.range (L.length - (j + 1))).map (fun i => j + 1 + i) := by
    rw [← List.range_succ, ← List.range_add]
    congr 1; omega
  unfold sel selK selB
  rw [e, List.filter_append, List.filter_append, List.map_append, List.map_append]
  cases h : S j <;> simp [h]
theorem selB_mem {S : Nat → Bool} {L : List PartD} {j : Nat} {p : PartD} (h : p ∈ selB S L j) : ∃ i, j < i ∧ i < L.length ∧ p = gP L i := by
  obtain ⟨i, hi, rfl⟩ := List.mem_map.1 h
  obtain ⟨h1, _⟩ := List.mem_filter.1 hi
  obtain ⟨k, hk, rfl⟩ := List.mem_map.1 h1
  have := List.mem_range.1 hk
  exact ⟨_, by omega, by omega, rfl⟩
theorem put_sel {L : List PartD} (h : NumOk L) (S : Nat → Bool) {j : Nat} (hj : j < L.length) (hS : S j = false) : putL (sel S L) (gP L j) = sel (fun i => S i || i == j) L := by
  rw [sel_split S L hj, sel_split (fun i => S i || i == j) L hj, hS]
  simp only [Bool.false_eq_true, if_false, List.append_nil, beq_self_eq_true, Bool.or_true, if_true]
  have e1 : selK (fun i => S i || i == j) L j = selK S L j := selK_congr fun i hi => by
    have : (i == j) = false := by simp; omega
    rw [this, Bool.or_false]
  have e2 : selB (fun i => S i || i == j) L j = selB S L j := by
    unfold selB
    rw [List.filter_congr (q := S) fun i hi => ?_]
    obtain ⟨k, _, rfl⟩ := List.mem_map.1 hi
    have : (j + 1 + k == j) = false := by simp; omega
    rw [this, Bool.or_false]
  rw [e1, e2]
  have hA : ∀ p ∈ selK S L j, p.num < (gP L j).num := fun p hp => by
    obtain ⟨i, hi, _, rfl⟩ := selK_mem hp
    rw [h.num i (by omega), h.num j hj]; omega
  have hB : ∀ p ∈ selB S L j, (gP L j).num < p.num := fun p hp => by
    obtain ⟨i, hi, hl, rfl⟩ := selB_mem hp
    rw [h.num i hl, h.num j hj]; omega
  generalize selK S L j = A at *
  generalize selB S L j = B at *
  generalize gP L j = p at *
  have hat : atP (A ++ B) p.num = A.length := by
    unfold atP
    rw [List.findIdx_append]
    have h1 : A.findIdx (fun q => decide (p.num ≤ q.num)) = A.length := List.findIdx_eq_length_of_false fun q hq => by
      have := hA q hq; simp; omega
    have h2 : B.findIdx (fun q => decide (p.num ≤ q.num)) = 0 := by
      cases B with
      | nil => rfl
      | cons q r =>
        have := hB q (by simp)
        rw [List.findIdx_cons, decide_eq_true (show p.num ≤ q.num by omega)]; rfl
    rw [h1, h2, if_neg (by omega), Nat.zero_add]
  unfold putL
  rw [hat, List.take_left]
  have hc : ¬ (A.length < (A ++ B).length ∧ (gP (A ++ B) A.length).num = p.num) := fun ⟨h1, h2⟩ => by
    have hm : gP (A ++ B) A.length ∈ B := by
      rw [gP_eq _ _ h1, List.getElem_append_right (Nat.le_refl _)]
      exact List.getElem_mem _
    have := hB _ hm
    omega
  rw [if_neg hc, List.drop_left]
  simp
/-- The turn's order. -/
def idxT (r m t : Nat) : Nat := (r + m - t) % m
theorem idxT_lt {r m t : Nat} (hm : 0 < m) : idxT r m t < m := Nat.mod_lt _ hm
theorem idxT_eq {r m t : Nat} (hr : r < m) (ht : t < m) : idxT r m t = if t ≤ r then r - t else r + m - t := by
  unfold idxT
  split
  · rw [show r + m - t = (r - t) + m by omega, Nat.add_mod_right, Nat.mod_eq_of_lt (by omega)]
  · rw [Nat.mod_eq_of_lt (by omega)]
def bS (r m k : Nat) (i : Nat) : Bool := (List.range k).any fun t => idxT r m t == i
def aS (k : Nat) (i : Nat) : Bool := decide (i < k)
theorem bS_succ (r m k : Nat) : bS r m (k + 1) = fun i => bS r m k i || i == idxT r m k := by
  funext i
  unfold bS
  rw [List.range_succ, List.any_append]
  simp [Bool.beq_comm, eq_comm]
theorem bS_new {r m k : Nat} (hr : r < m) (hk : k < m) : bS r m k (idxT r m k) = false := by
  unfold bS
  rw [List.any_eq_false]
  intro t ht
  have ht' := List.mem_range.1 ht
  rw [idxT_eq hr hk, idxT_eq hr (by omega)]
  simp only [beq_iff_eq]
  split <;> split <;> omega
theorem bS_all {r m : Nat} (hr : r < m) {i : Nat} (hi : i < m) : bS r m m i = true := by
  unfold bS
  rw [List.any_eq_true]
  refine ⟨idxT r m i, List.mem_range.2 (idxT_lt (by omega)), ?_⟩
  rw [beq_iff_eq]
  have h1 := idxT_eq hr hi
  have h2 := idxT_eq hr (idxT_lt (r := r) (t := i) (show 0 < m by omega))
  rw [h2]
  generalize idxT r m i = x at *
  split at h1 <;> split <;> omega
theorem aS_succ (k : Nat) : aS (k + 1) = fun i => aS k i || i == k := by
  funext i
  unfold aS
  by_cases h : i < k
  · simp [h]; omega
  · by_cases h2 : i = k
    · subst h2; simp
    · have : (i == k) = false := by simpa using h2
      simp [h, this]; omega
end Go.Proofs.YtbhgekhcpagkoaaDoor
/- PartsOrder. -/
set_option linter.unusedVariables false
set_option linter.unusedSimpArgs false
namespace Go.Proofs.YtbhgekhcpagkoaaDoor
open Go Go.RowKit
/-- An upload's row written leaves the parts. -/
theorem OwnP.row {w0 w : World} {v : Value} {zs : List PartD} {b : Nat} {u : UpD} {x : Value} (h : OwnP w0 w v zs) (hb : BoxU w b u x) (u' : UpD) (x' : Value) : OwnP w0 (w.setRow b (upL u' x').toArray) v zs := by
  refine h.g (row := some b) ⟨rfl, rfl, rfl, by simp [World.setRow], fun k _ hk => setRow_other _ _ k _ (fun e => hk (by rw [e]))⟩ (fun k hk e => ?_)
  cases e
  rcases h.2 with ⟨rfl, _⟩ | ⟨g, cap, cur, rfl, h1, h2, _⟩
  · cases hk
  · have : g = b := by simpa [Value.ownBlock] using hk
    subst this
    unfold BoxU at hb
    rw [hb] at h2
    cases h2
theorem BoxU.row {w : World} {b c : Nat} {u : UpD} {x : Value} (h : BoxU w b u x) (hne : c ≠ b) (r : Array Value) : BoxU (w.setRow c r) b u x := by
  unfold BoxU at *
  rw [setRow_other _ _ b _ (fun e => hne e.symm)]
  exact h
/-- Two uploads in their boxes, each with the parts that were put. -/
structure OrdW (w0 : World) (N7 N8 : Nat) (va vb : Value) (la lb : List PartD) (w : World) : Prop where
  a : BoxU w N7 zU va
  b : BoxU w N8 zU vb
  pa : OwnP w0 w va la
  pb : OwnP w0 w vb lb
  q : Q w0 w
  n7 : w0.heap.size ≤ N7
  n8 : w0.heap.size ≤ N8
  ne : N7 ≠ N8
theorem OrdW.go {w0 w w' : World} {N7 N8 : Nat} {va vb : Value} {la lb : List PartD} (h : OrdW w0 N7 N8 va vb la lb w) (hq : Q w w') : OrdW w0 N7 N8 va vb la lb w' :=
  ⟨h.a.q hq, h.b.q hq, h.pa.q hq, h.pb.q hq, h.q.trans hq, h.n7, h.n8, h.ne⟩
theorem OrdW.seta {w0 w : World} {N7 N8 : Nat} {va vb v : Value} {la lb l : List PartD} (h : OrdW w0 N7 N8 va vb la lb w) (hv : OwnP w0 w v l) : OrdW w0 N7 N8 v vb l lb (w.setRow N7 (upL zU v).toArray) :=
  ⟨setRow_heap _ _ _ _ _ _ h.a, h.b.row h.ne _, hv.row h.a _ _, h.pb.row h.a _ _, h.q.below (below_setRow (Below.refl _ _) h.n7 _), h.n7, h.n8, h.ne⟩
theorem OrdW.setb {w0 w : World} {N7 N8 : Nat} {va vb v : Value} {la lb l : List PartD} (h : OrdW w0 N7 N8 va vb la lb w) (hv : OwnP w0 w v l) : OrdW w0 N7 N8 va v la l (w.setRow N8 (upL zU v).toArray) :=
  ⟨h.a.row (fun e => h.ne e.symm) _, setRow_heap _ _ _ _ _ _ h.b, h.pa.row h.b _ _, hv.row h.b _ _, h.q.below (below_setRow (Below.refl _ _) h.n8 _), h.n7, h.n8, h.ne⟩
theorem OrdW.start (w : World) : OrdW w w.heap.size (w.heap.size + 1) (.slice none 0 0) (.slice none 0 0) [] [] ((w.alloc (.cells (upL zU (.slice none 0 0)).toArray 26)).alloc (.cells (upL zU (.slice none 0 0)).toArray 26)) := by
  have h1 := BoxU.new w zU (.slice none 0 0)
  have q1 : Q w (w.alloc (.cells (upL zU (.slice none 0 0)).toArray 26)) := (Q.refl _).alloc _
  have s1 : (w.alloc (.cells (upL zU (.slice none 0 0)).toArray 26)).heap.size = w.heap.size + 1 := by simp
  generalize w.alloc (.cells (upL zU (.slice none 0 0)).toArray 26) = w1 at *
  have h2 := BoxU.new w1 zU (.slice none 0 0)
  have q2 : Q w1 (w1.alloc (.cells (upL zU (.slice none 0 0)).toArray 26)) := (Q.refl _).alloc _
  rw [s1] at h2
  exact ⟨h1.q q2, h2, OwnP.nil _ _, OwnP.nil _ _, q1.trans q2, by omega, by omega, by omega⟩
theorem BoxU.lt {w : World} {b : Nat} {u : UpD} {v : Value} (h : BoxU w b u v) : b < w.heap.size := (Array.getElem?_eq_some_iff.1 h).1
/-- A box with what a put has handed back. -/
structure MidW (w0 : World) (N : Nat) (v : Value) (l : List PartD) (w : World) : Prop where
  b : BoxU w N zU v
  p : OwnP w0 w v l
theorem MidW.go {w0 w w' : World} {N : Nat} {v : Value} {l : List PartD} (h : MidW w0 N v l w) (hq : Q w w') : MidW w0 N v l w' := ⟨h.b.q hq, h.p.q hq⟩
theorem MidW.row {w0 w : World} {N b : Nat} {u : UpD} {v x : Value} {l : List PartD} (h : MidW w0 N v l w) (hb : BoxU w b u x) (hne : b ≠ N) (u' : UpD) (x' : Value) : MidW w0 N v l (w.setRow b (upL u' x').toArray) := ⟨h.b.row hne _, h.p.row hb _ _⟩
theorem Put_yes (A : Option Addr) (n cap : Nat) (ps : List PartD) (p : PartD) (w : World) (h : PartsAt w A n ps) (hok : OkP ps) (hp : p.tag.length ≤ 140737488355328) (hcap : n ≤ cap ∧ cap ≤ 9223372036854775807) (hr : rightB ps = true) (hm : mayB p = true) :
    Calls Tryd.prog 10 #[.agg (upL zU (.slice A n cap)).toArray, .agg (partL p).toArray] w fun e w' => (∃ A' n' c', e = .returned (.tuple #[.agg (upL zU (.slice A' n' c')).toArray, .int .i64 0]) ∧ OwnP w w' (.slice A' n' c') (putL ps p)) ∧ Q w w' := by
  refine (Put_any zU A n cap ps p w h hok hp hcap).mono ?_
  rintro e w1 ⟨h1 | h1, hq⟩
  · obtain ⟨_, v, he, ho⟩ := h1
    obtain ⟨A', c', hv, _⟩ := ho.parts
    subst hv
    exact ⟨⟨A', _, c', he, ho⟩, hq⟩
  · rw [hr, hm] at h1
    cases h1.1
set_option maxRecDepth 100000 in
set_option maxHeartbeats 8000000 in
theorem PartsOrder_any (A : Option Addr) (n cap : Nat) (ps : List PartD) (turn : Int) (w : World) (h : PartsAt w A n ps) (hok : OkP ps) (hn : n ≤ 2932031007402) (htn : -9223372036854775808 ≤ turn ∧ turn ≤ 9223372036854775807) (ht : Tab w) :
    Calls Tryd.prog 3 #[.slice A n cap, .int .i64 turn] w fun e w' => e = .returned (.bool true) ∧ Q w w' := by
  have HP := Lib.hid h
  have HT := Lib.hid ht
  have HN := Lib.hid (numL_ok ps)
  clear h ht hok
  go_enter Tryd.func3, Tryd.ntmps3
  go_wp2_with fail
  refine (examples_any _ HT.out).mono ?_
  rintro e w1 ⟨rfl, hq1⟩
  go_wp2_with fail
  refine (numbered_any A n cap ps w1 (HP.out.q hq1) hn).mono ?_
  rintro e w2 ⟨⟨v2, rfl, ho2⟩, hq2⟩
  obtain ⟨L, hL⟩ : ∃ L, numL ps = L := ⟨_, rfl⟩
  rw [hL] at ho2 HN
  have HQ2 := Lib.hid (hq1.trans hq2)
  obtain ⟨A2, c2, hv2, hl2, hc2, hP2, hown⟩ := ho2.parts
  subst hv2
  obtain ⟨m, hk2⟩ : ∃ k, k = L.length := ⟨_, rfl⟩
  rw [← hk2] at hP2 hl2 ⊢
  have HK := Lib.hid hk2
  have HL := Lib.hid hP2
  have HOWN := Lib.hid hown
  have hm20 : m ≤ 20 := by rw [hk2]; exact HN.out.len
  have hO := OrdW.start w2
  obtain ⟨N7, hN7⟩ : ∃ G, w2.heap.size = G := ⟨_, rfl⟩
  obtain ⟨W3, hW3⟩ : ∃ W, (w2.alloc (.cells (upL zU (.slice none 0 0)).toArray 26)).alloc (.cells (upL zU (.slice none 0 0)).toArray 26) = W := ⟨_, rfl⟩
  rw [hW3, hN7] at hO
  have hW3b : (w2.alloc (.cells #[.int .i64 0, .string ⟨#[]⟩, .string ⟨#[]⟩, .string ⟨#[]⟩, .string ⟨#[]⟩, .int .i64 0, .slice none 0 0] 26)).alloc (.cells #[.int .i64 0, .string ⟨#[]⟩, .string ⟨#[]⟩, .string ⟨#[]⟩, .string ⟨#[]⟩, .int .i64 0, .slice none 0 0] 26) = W3 := hW3
  have HO := Lib.hid hO
  clear hq1 hq2 ho2 hl2 hc2 hP2 hk2 hL HP hown hO hW3
  by_cases h0 : m = 0
  · have g0 : ((m : Int) == 0) = true := by simp; omega
    clear h0
    go_wp2_with fail
    go_ret
    exact ⟨rfl, HQ2.out.trans HO.out.q⟩
  · have g0 : ((m : Int) == 0) = false := by simp; omega
    have hm0 : 0 < m := by omega
    clear h0
    go_upto_region 7 with (fail)
    clear hW3b hN7
    go_upto_if 24 with (fail)
    go_cut [1] (fun s wx => ∃ tn : Nat, s = .int .i64 (tn : Int) ∧ tn ≤ 9223372036854775807 ∧ W3 = wx)
    case first =>
      by_cases hneg : turn < 0
      · have g1 : decide (turn < 0) = true := decide_eq_true hneg
        obtain ⟨tn, htn2⟩ : ∃ tn : Nat, -(turn + 1) = (tn : Int) := ⟨(-(turn + 1)).toNat, by omega⟩
        have htn3 : tn ≤ 9223372036854775807 := by omega
        go_wp2_with fail
        go_meet
        exact ⟨tn, by rw [← htn2], htn3, rfl⟩
      · have g1 : decide (turn < 0) = false := decide_eq_false hneg
        obtain ⟨tn, rfl⟩ : ∃ tn : Nat, turn = (tn : Int) := ⟨turn.toNat, by omega⟩
        go_wp2_with fail
        go_meet
        exact ⟨tn, rfl, by omega, rfl⟩
    case rest =>
      obtain ⟨tn, rfl, htn3, rfl⟩ := hcut
      go_wp2_with fail
      obtain ⟨r, hr⟩ : ∃ r, r = tn % m := ⟨_, rfl⟩
      have hrm : r < m := by rw [hr]; exact Nat.mod_lt _ hm0
      have HRI := Lib.hid (show (tn : Int) % (m : Int) = (r : Int) by rw [hr]; exact (Int.natCast_emod _ _).symm)
      clear hr
      rename World => w3
      go_loopw [9] (fun i wr => ∃ k : Nat, ∃ va vb : Value, k ≤ m ∧ i = .int .i64 (k : Int) ∧ Hid (OrdW w2 N7 (N7 + 1) va vb (sel (aS k) L) (sel (bS r m k) L) wr)) (fun i _ => m - (intOf i).toNat)
      case atStart => exact ⟨0, _, _, by omega, rfl, by rw [sel_none (S := aS 0) (fun i _ => rfl), sel_none (S := bS r m 0) (fun i _ => rfl)]; exact HO.out⟩
      case round =>
        clear HO
        obtain ⟨k, va, vb, hk, rfl, HO⟩ := hrel
        by_cases hlt : k < m
        · have g1 : decide (k < m) = true := by simpa using hlt
          obtain ⟨Aa, ca, hva, hla, hca, hPa, _⟩ := HO.out.pa.parts
          obtain ⟨Ab, cb, hvb, hlb, hcb, hPb, _⟩ := HO.out.pb.parts
          subst hva hvb
          have HRA := Lib.hid (HN.out.right (S := aS k) (Nat.le_refl _))
          have HRB := Lib.hid (HN.out.right (S := bS r m k) (Nat.le_refl _))
          obtain ⟨j, hj⟩ : ∃ j, j = idxT r m k := ⟨_, rfl⟩
          have hjm : j < m := by rw [hj]; exact idxT_lt hm0
          have HPA := Lib.hid (put_sel HN.out (aS k) (j := k) (by rw [← HK.out]; exact hlt) (by simp [aS]))
          have HPB := Lib.hid (put_sel HN.out (bS r m k) (j := idxT r m k) (by rw [← hj, ← HK.out]; exact hjm) (bS_new hrm hlt))
          rw [← aS_succ] at HPA
          rw [← bS_succ, ← hj] at HPB
          obtain ⟨ka, hka⟩ : ∃ x, x = (sel (aS k) L).length := ⟨_, rfl⟩
          obtain ⟨kb, hkb⟩ : ∃ x, x = (sel (bS r m k) L).length := ⟨_, rfl⟩
          rw [← hka] at HO hla
          rw [← hkb] at HO hlb
          have HKA := Lib.hid hka
          have HKB := Lib.hid hkb
          have HCA : Hid (ka ≤ ca ∧ ca ≤ 9223372036854775807) := Lib.hid (And.intro hla hca)
          have HCB : Hid (kb ≤ cb ∧ cb ≤ 9223372036854775807) := Lib.hid (And.intro hlb hcb)
          have HKO := Lib.hid (HN.out.okp (S := aS k) (Nat.le_refl _))
          have HKP := Lib.hid (HN.out.okp (S := bS r m k) (Nat.le_refl _))
          have HMK := Lib.hid (HN.out.may (i := k) (by rw [← HK.out]; exact hlt))
          have HMJ := Lib.hid (HN.out.may (i := j) (by rw [← HK.out]; exact hjm))
          have HTK : Hid ((gP L k).tag.length ≤ 140737488355328) := Lib.hid (by rw [HN.out.tag k (by rw [← HK.out]; exact hlt)]; decide)
          have HTJ : Hid ((gP L j).tag.length ≤ 140737488355328) := Lib.hid (by rw [HN.out.tag j (by rw [← HK.out]; exact hjm)]; decide)
          have HJ := Lib.hid hj
          clear hka hkb hla hlb hca hcb hPa hPb hj
          go_upto_region 12 with (fail)
          obtain ⟨g, off, rfl, c0, c1, c2, c3, c4⟩ := (HL.out.q (HO.out.q.trans (Q.refl wr).drew)).at hlt
          have h0 := (HOWN.out _ _ rfl).1
          subst h0
          rw [Nat.zero_add] at c0 c1 c2 c3 c4
          have kd0 : ∀ m : QW wr.drew, m.val.cell? ⟨g, k * 5, none⟩ = some (.int .i64 (gP L k).num) := fun m => m.cell c0
          have kd1 : ∀ m : QW wr.drew, m.val.cell? ⟨g, k * 5 + 1, none⟩ = some (.int .i64 (gP L k).size) := fun m => m.cell c1
          have kd2 : ∀ m : QW wr.drew, m.val.cell? ⟨g, k * 5 + 2, none⟩ = some (.int .i64 (gP L k).time) := fun m => m.cell c2
          have kd3 : ∀ m : QW wr.drew, m.val.cell? ⟨g, k * 5 + 3, none⟩ = some (.string ⟨(gP L k).tag.toArray⟩) := fun m => m.cell c3
          have kd4 : ∀ m : QW wr.drew, m.val.cell? ⟨g, k * 5 + 4, none⟩ = some (.int .i64 (gP L k).blob) := fun m => m.cell c4
          clear c0 c1 c2 c3 c4
          refine wp_flo [0, 1, 2, 3, 4] [(5, [6, 7, 8])] 9 [10, 11] [[0, 1, 2, 3, 4, 5, 6, 7], [0, 1, 2, 3, 4, 5, 6, 8]] (.cells (upL zU (.slice none 0 0)).toArray 26) (by kernel_rfl) (by kernel_rfl) (fun ρ W => by kernel_rfl) ?_
          simp only [wpCh, opsL, List.map_cons, List.map_nil, Array.getD_eq_getD_getElem?, List.getElem?_toArray, List.getElem?_cons_succ, List.getElem?_cons_zero, Option.getD_some]
          refine wpQuiet_load_row rfl 26 (.tmp 7) rfl N7 (by rfl) 26 (upL zU (.slice Aa ka ca)).toArray (0, 0) _ (fun w' hw' => by obtain ⟨m, rfl⟩ := hw'; exact (HO.out.go ((Q.refl wr).drew.trans m.le)).a) Tryd.underlying26 rfl infoU ?_
          simp only [Act.put, List.setIfInBounds_toArray, List.set_cons_succ, List.set_cons_zero]
          (repeat (go_big_quiet_step (fail)))
          refine wpQuiet_nil ?_
          obtain ⟨wd, hwd⟩ : ∃ W, wr.drew = W := ⟨_, rfl⟩
          have hqd : Q wr wd := by rw [← hwd]; exact (Q.refl wr).drew
          rw [hwd]
          have HO1 := Lib.hid (HO.out.go hqd)
          have HQd : Hid (Q wd wd) := (Q.refl wd : Q wd wd)
          clear hwd hqd HO kd0 kd1 kd2 kd3 kd4
          intro W hW K hK
          have HQd := Lib.hid (HQd.out.trans hW)
          have hPut : Calls Tryd.prog 10 #[.agg (upL zU (.slice Aa ka ca)).toArray, .agg #[.int .i64 (gP L k).num, .int .i64 (gP L k).size, .int .i64 (gP L k).time, .string ⟨(gP L k).tag.toArray⟩, .int .i64 (gP L k).blob]] W _ := Put_yes Aa ka ca (sel (aS k) L) (gP L k) W ((HO1.out.go HQd.out).pa.sub HKA.out) HKO.out HTK.out HCA.out HRA.out HMK.out
          clear hW
          go_wp2_with fail
          refine hPut.mono ?_
          rintro e w5 ⟨⟨A5, n5, c5, rfl, ho5⟩, hq5⟩
          clear hPut
          rw [HPA.out] at ho5
          have HO5 := Lib.hid (ho5.base (HO1.out.q.trans HQd.out).size)
          have HQd := Lib.hid (HQd.out.trans hq5)
          go_wp2_with fail
          refine hK.out _ _ hq5 ?_
          clear hq5 ho5 hK K
          (repeat (go_big_quiet_step (fail)))
          refine wpQuiet_nil ?_
          intro W' b2 hW hb hN2
          have hBb : BoxU W' b2 zU (.slice none 0 0) := hb
          have HQd := Lib.hid (HQd.out.trans hW)
          have hqs := HQd.out.below (below_setRow (Below.refl _ _) hN2 (upL zU (.slice A5 n5 c5)).toArray)
          have hBW : BoxU (W'.setRow b2 (upL zU (.slice A5 n5 c5)).toArray) b2 zU (.slice A5 n5 c5) := setRow_heap W' _ _ _ _ _ hBb
          have HX := Lib.hid (MidW.mk hBW ((HO5.out.q hW).row hBb zU (.slice A5 n5 c5)))
          have HO2 := Lib.hid (HO1.out.go hqs)
          clear hN2 hb HQd HO1 HO5 hBW hW hqs
          go_wp2_with (refine wpList_store_row rfl 26 _ _ rfl b2 (upL zU (.slice A5 n5 c5)).toArray (by rfl) (by rfl) 26 _ hBb infoU rfl (upL_one _ _ rfl) ?_)
          refine NoPanic.normal ?_
          obtain ⟨w6, hw6⟩ : ∃ X, W'.setRow b2 (upL zU (.slice A5 n5 c5)).toArray = X := ⟨_, rfl⟩
          rw [hw6] at HO2 HX ⊢
          clear hw6 hBb
          go_upto_region 13 with (fail)
          have c0 := (HL.out.q (HO2.out.q.trans (Q.refl w6).drew)).z hjm
          obtain ⟨c0, c1, c2, c3, c4⟩ := c0
          have kd0 : ∀ m : QW w6.drew, m.val.cell? ⟨g, j * 5, none⟩ = some (.int .i64 (gP L j).num) := fun m => m.cell c0
          have kd1 : ∀ m : QW w6.drew, m.val.cell? ⟨g, j * 5 + 1, none⟩ = some (.int .i64 (gP L j).size) := fun m => m.cell c1
          have kd2 : ∀ m : QW w6.drew, m.val.cell? ⟨g, j * 5 + 2, none⟩ = some (.int .i64 (gP L j).time) := fun m => m.cell c2
          have kd3 : ∀ m : QW w6.drew, m.val.cell? ⟨g, j * 5 + 3, none⟩ = some (.string ⟨(gP L j).tag.toArray⟩) := fun m => m.cell c3
          have kd4 : ∀ m : QW w6.drew, m.val.cell? ⟨g, j * 5 + 4, none⟩ = some (.int .i64 (gP L j).blob) := fun m => m.cell c4
          have hji : ((tn : Int) % (m : Int) + (m : Int) - (k : Int)) % (m : Int) = (j : Int) := by
            have e : (r : Int) + (m : Int) - (k : Int) = ((r + m - k : Nat) : Int) := by omega
            rw [HRI.out, e, HJ.out]; exact (Int.natCast_emod _ _).symm
          have hj1 : 0 ≤ (tn : Int) % (m : Int) := by rw [HRI.out]; omega
          have hj2 : (tn : Int) % (m : Int) ≤ 20 := by rw [HRI.out]; omega
          have hj3 : (tn : Int) % (m : Int) + (m : Int) ≤ 40 := by omega
          have hj4 : 0 ≤ (tn : Int) % (m : Int) + (m : Int) := by omega
          have hj5 : 0 ≤ (tn : Int) % (m : Int) + (m : Int) - (k : Int) := by omega
          have hj6 : (tn : Int) % (m : Int) + (m : Int) - (k : Int) ≤ 40 := by omega
          clear c0 c1 c2 c3 c4
          refine wp_flo [0, 1, 2, 3, 4, 5, 6, 7, 8, 9, 10, 11, 12, 13, 14, 15] [(16, [17, 18, 19])] 20 [21, 22] [[0, 1, 2, 3, 4, 5, 6, 7, 8, 9, 10, 11, 12, 13, 14, 15, 16, 17, 18], [0, 1, 2, 3, 4, 5, 6, 7, 8, 9, 10, 11, 12, 13, 14, 15, 16, 17, 19]] (.cells (upL zU (.slice none 0 0)).toArray 26) (by kernel_rfl) (by kernel_rfl) (fun ρ W => by kernel_rfl) ?_
          simp only [wpCh, opsL, List.map_cons, List.map_nil, Array.getD_eq_getD_getElem?, List.getElem?_toArray, List.getElem?_cons_succ, List.getElem?_cons_zero, Option.getD_some]
          refine wpQuiet_load_row rfl 26 (.tmp 8) rfl (N7 + 1) (by rfl) 26 (upL zU (.slice Ab kb cb)).toArray (0, 0) _ (fun w' hw' => by obtain ⟨m, rfl⟩ := hw'; exact (HO2.out.go ((Q.refl w6).drew.trans m.le)).b) Tryd.underlying26 rfl infoU ?_
          simp only [Act.put, List.setIfInBounds_toArray, List.set_cons_succ, List.set_cons_zero]
          (repeat (go_big_quiet_step (fail)))
          refine wpQuiet_nil ?_
          obtain ⟨wd, hwd⟩ : ∃ W, w6.drew = W := ⟨_, rfl⟩
          have hqd : Q w6 wd := by rw [← hwd]; exact (Q.refl w6).drew
          rw [hwd]
          have HO3 := Lib.hid (HO2.out.go hqd)
          have HX := Lib.hid (HX.out.go hqd)
          have HQd : Hid (Q wd wd) := (Q.refl wd : Q wd wd)
          clear hwd hqd HO2 kd0 kd1 kd2 kd3 kd4 hji hj1 hj2 hj3 hj4 hj5 hj6
          intro W hW K hK
          have HQd := Lib.hid (HQd.out.trans hW)
          have hPut : Calls Tryd.prog 10 #[.agg (upL zU (.slice Ab kb cb)).toArray, .agg #[.int .i64 (gP L j).num, .int .i64 (gP L j).size, .int .i64 (gP L j).time, .string ⟨(gP L j).tag.toArray⟩, .int .i64 (gP L j).blob]] W _ := Put_yes Ab kb cb (sel (bS r m k) L) (gP L j) W ((HO3.out.go HQd.out).pb.sub HKB.out) HKP.out HTJ.out HCB.out HRB.out HMJ.out
          clear hW
          go_wp2_with fail
          refine hPut.mono ?_
          rintro e w7 ⟨⟨A7, n7, c7, rfl, ho7⟩, hq7⟩
          clear hPut
          have hpb : putL (sel (bS r m k) L) (gP L j) = sel (bS r m (k + 1)) L := HPB.out
          rw [hpb] at ho7
          have HO7 := Lib.hid (ho7.base (HO3.out.q.trans HQd.out).size)
          have HQd := Lib.hid (HQd.out.trans hq7)
          clear hpb
          go_wp2_with fail
          refine hK.out _ _ hq7 ?_
          clear hq7 ho7 hK K
          (repeat (go_big_quiet_step (fail)))
          refine wpQuiet_nil ?_
          intro W' b3 hW hb hN2
          have hBb : BoxU W' b3 zU (.slice none 0 0) := hb
          have HNE : Hid (N7 ≠ b3) := Lib.hid (by have := HO3.out.a.lt; omega)
          have HQd := Lib.hid (HQd.out.trans hW)
          have hqs := HQd.out.below (below_setRow (Below.refl _ _) hN2 (upL zU (.slice A7 n7 c7)).toArray)
          have hBW : BoxU (W'.setRow b3 (upL zU (.slice A7 n7 c7)).toArray) b3 zU (.slice A7 n7 c7) := setRow_heap W' _ _ _ _ _ hBb
          have HY := Lib.hid (MidW.mk hBW ((HO7.out.q hW).row hBb zU (.slice A7 n7 c7)))
          have HO4 := Lib.hid (HO3.out.go hqs)
          have HX := Lib.hid (HX.out.go hqs)
          clear hN2 hb HQd HO3 HO7 hBW hW hqs
          go_wp2_with (refine wpList_store_row rfl 26 _ _ rfl b3 (upL zU (.slice A7 n7 c7)).toArray (by rfl) (by rfl) 26 _ hBb infoU rfl (upL_one _ _ rfl) ?_)
          refine NoPanic.normal ?_
          obtain ⟨w8, hw8⟩ : ∃ X, W'.setRow b3 (upL zU (.slice A7 n7 c7)).toArray = X := ⟨_, rfl⟩
          rw [hw8] at HO4 HX HY ⊢
          clear hw8 hBb
          go_upto_region 16 with (fail)
          have ha := HO4.out.a
          have HO5 := Lib.hid (HO4.out.seta HX.out.p)
          have HY := Lib.hid (HY.out.row ha HNE.out zU (.slice A5 n5 c5))
          go_step
          refine wpList_load_row rfl 26 (.tmp 10) rfl b2 (by rfl) 26 (upL zU (.slice A5 n5 c5)).toArray (0, 0) _ HX.out.b Tryd.underlying26 rfl infoU ?_
          simp only [Act.put, List.setIfInBounds_toArray, List.set_cons_succ, List.set_cons_zero]
          clear HX HO4
          go_upto_region 17 with (refine wpList_store_row rfl 26 _ _ rfl N7 (upL zU (.slice A5 n5 c5)).toArray (by rfl) (by rfl) 26 _ ha infoU rfl (upL_one _ _ rfl) ?_)
          obtain ⟨w9, hw9⟩ : ∃ X, w8.setRow N7 (upL zU (.slice A5 n5 c5)).toArray = X := ⟨_, rfl⟩
          rw [hw9] at HO5 HY ⊢
          clear hw9 ha
          have hb8 := HO5.out.b
          have HO6 := Lib.hid (HO5.out.setb HY.out.p)
          go_step
          refine wpList_load_row rfl 26 (.tmp 12) rfl b3 (by rfl) 26 (upL zU (.slice A7 n7 c7)).toArray (0, 0) _ HY.out.b Tryd.underlying26 rfl infoU ?_
          simp only [Act.put, List.setIfInBounds_toArray, List.set_cons_succ, List.set_cons_zero]
          clear HY HO5
          go_wp2_with (refine wpList_store_row rfl 26 _ _ rfl (N7 + 1) (upL zU (.slice A7 n7 c7)).toArray (by rfl) (by rfl) 26 _ hb8 infoU rfl (upL_one _ _ rfl) ?_)
          clear hb8
          go_roundw
          case rel => exact ⟨k + 1, _, _, hlt, by go_num, HO6.out⟩
          case measure => simp [intOf]; omega
        · have g1 : decide (k < m) = false := by simpa using hlt
          obtain rfl : k = m := by omega
          have ea : sel (aS k) L = L := sel_full fun i hi => by simp [aS]; have := HK.out; omega
          have eb : sel (bS r k k) L = L := sel_full fun i hi => bS_all hrm (by have := HK.out; omega)
          rw [ea, eb] at HO
          clear ea eb
          obtain ⟨Aa, ca, hva, hla, hca, hPa, hoa⟩ := HO.out.pa.parts
          obtain ⟨Ab, cb, hvb, hlb, hcb, hPb, hob⟩ := HO.out.pb.parts
          subst hva hvb
          rw [← HK.out] at HO
          have HOA := Lib.hid hoa
          clear hla hca hlb hcb hPa hPb hoa hob hlt
          have hk1 : (1 : Int) ≤ (k : Int) := by omega
          go_wp2_with fail
          rename World => wx
          go_loopw [14] (fun i wr => ∃ q : Nat, 1 ≤ q ∧ q ≤ k ∧ i = .int .i64 (q : Int) ∧ Hid (Q wx wr)) (fun i _ => k - (intOf i).toNat)
          case atStart => exact ⟨1, by omega, by omega, rfl, Q.refl _⟩
          case round =>
            obtain ⟨q, hq1, hq, rfl, HQ⟩ := hrel
            have HOr := Lib.hid (HO.out.go HQ.out)
            have c6 := HOr.out.a.c6
            by_cases hlt : q < k
            · have g1 : decide (q < k) = true := by simpa using hlt
              have hqk : q < L.length := by rw [← HK.out]; exact hlt
              obtain ⟨g, off, rfl, c0, _⟩ := (HOr.out.pa.sub HK.out).at hlt
              have h0 := (HOA.out _ _ rfl).1
              subst h0
              obtain ⟨g', off', hA, c0', _⟩ := (HOr.out.pa.sub HK.out).at (show q - 1 < k by omega)
              obtain ⟨rfl, rfl⟩ : g = g' ∧ 0 = off' := by cases hA; exact ⟨rfl, rfl⟩
              rw [Nat.zero_add] at c0 c0'
              have ck6 : ∀ m : QW wr, m.val.cell? ⟨N7, 6, none⟩ = some (.slice (some ⟨g, 0, none⟩) k ca) := fun m => m.cell c6
              have ck : ∀ m : QW wr, m.val.cell? ⟨g, q * 5, none⟩ = some (.int .i64 (gP L q).num) := fun m => m.cell c0
              have ck' : ∀ m : QW wr, m.val.cell? ⟨g, (q - 1) * 5, none⟩ = some (.int .i64 (gP L (q - 1)).num) := fun m => m.cell c0'
              have hk1' : (0 : Int) ≤ (q : Int) - 1 := by omega
              have hk2' : (q : Int) - 1 < (k : Int) := by omega
              have hkt : ((q : Int) - 1).toNat = q - 1 := by omega
              have hmb : (k : Int) ≤ 20 := by omega
              have g3 : decide ((gP L q).num ≤ (gP L (q - 1)).num) = false := by rw [HN.out.num q hqk, HN.out.num (q - 1) (by omega)]; simp; omega
              clear c0 c0' hA hqk
              go_wp2_with fail
              refine wp_region_q (by kernel_rfl) (by kernel_rfl) ?_
              (repeat (go_big_quiet_step (fail)))
              refine wpQuiet_nil ?_
              rintro wa ⟨ma, hma⟩
              have hqa : Q wr wa := by rw [hma]; exact ma.le
              have HQa := Lib.hid (HQ.out.trans hqa)
              clear hma ma hqa c6 ck6 ck ck'
              go_wp2_with fail
              go_roundw
              case rel => exact ⟨q + 1, by omega, hlt, by go_num, HQa.out⟩
              case measure => simp [intOf]; omega
            · have g1 : decide (q < k) = false := by simpa using hlt
              go_upto_region 23 with (fail)
              clear c6
              go_step
              refine wpList_load_row rfl 26 (.tmp 7) rfl N7 (by rfl) 26 (upL zU (.slice Aa k ca)).toArray (0, 0) _ HOr.out.a Tryd.underlying26 rfl infoU ?_
              simp only [Act.put, List.setIfInBounds_toArray, List.set_cons_succ, List.set_cons_zero]
              refine wpList_load_row rfl 26 (.tmp 8) rfl (N7 + 1) (by rfl) 26 (upL zU (.slice Ab k cb)).toArray (0, 0) _ HOr.out.b Tryd.underlying26 rfl infoU ?_
              simp only [Act.put, List.setIfInBounds_toArray, List.set_cons_succ, List.set_cons_zero]
              have hSame : Calls Tryd.prog 11 #[.agg (upL zU (.slice Aa k ca)).toArray, .agg (upL zU (.slice Ab k cb)).toArray] wr _ := SameUpload_any zU Aa Ab k ca cb L wr (HOr.out.pa.sub HK.out) (HOr.out.pb.sub HK.out) (by omega)
              go_wp2_with fail
              refine hSame.mono ?_
              rintro e w13 ⟨rfl, hq13⟩
              clear hSame
              have HOz := Lib.hid (HOr.out.go hq13)
              have c6 := HOz.out.a.c6
              clear HOr HO hq13
              go_wp2_with fail
              go_ret
              exact ⟨rfl, HQ2.out.trans HOz.out.q⟩
end Go.Proofs.YtbhgekhcpagkoaaDoor
/- A slice of bools that came in, opened. -/
set_option linter.unusedVariables false
namespace Go.Proofs.YtbhgekhcpagkoaaDoor
open Go Go.RowKit Go.ChangeShapes Go.WideShapes Go.Deep
section
variable {H : Type} {enc : TypeId × Value → H} {W : World} {hd : Bool}
set_option maxRecDepth 100000 in
theorem bools_open {b0 : Nat} {v : Value} {d : DataW H} {q : List MemPlace} (hv : Value.okWide Tryd.prog W .any b0 34 v) (h : DataW.Trod enc Tryd.prog W 0 (fun _ => true) hd 34 v d q) :
    ∃ A n cap bs, v = .slice A n cap ∧ BoolsAt W A n bs ∧ n ≤ 9223372036854775807 := by
  obtain ⟨A, len, cap, rfl⟩ := okWide_slice Tryd.underlying34 hv
  obtain ⟨fuel, hf⟩ := h
  have hc : Tryd.prog.cellsOf 4 = 1 := by kernel_rfl
  rcases open_slice1 Tryd.underlying34 hc hf with ⟨hcs, hx⟩ | ⟨a, len', cap', m, n, V, D, Pl, hcs, _, hl, hm, hmm, hx, hcell⟩
  · simp [Value.cells] at hcs
    obtain ⟨rfl, rfl, rfl⟩ := hcs
    exact ⟨none, 0, 0, [], rfl, ⟨rfl, fun h => absurd h (by omega)⟩, by omega⟩
  · simp [Value.cells] at hcs
    obtain ⟨rfl, rfl, rfl⟩ := hcs
    simp only [if_true] at hmm
    subst hmm
    obtain ⟨B, hB⟩ := choose_lt (α := Bool) (p := fun i b => W.cell? (a.add i) = some (.bool b)) (fun i hi => by
      obtain ⟨b, h1, _⟩ := DataW.trod_bool Tryd.underlying4 (hcell i hi).2
      refine ⟨b, ?_⟩
      rw [(hcell i hi).1]
      simpa using h1)
    have hmx : m ≤ 9223372036854775807 := by unfold maxLen at hm; omega
    refine ⟨some a, len, m, (List.range len).map B, rfl, ⟨by simp, fun h0 => ?_⟩, by omega⟩
    have h00 := hB 0 (by omega)
    obtain ⟨g, off, spot⟩ := a
    have hsp : spot = none := by
      unfold Addr.add World.cell? at h00
      simp only [Nat.add_zero, if_true] at h00
      split at h00
      · cases spot with
        | none => rfl
        | some s => simp at h00
      · cases h00
    subst hsp
    refine ⟨g, off, rfl, fun i hi => ?_⟩
    have hi' : i < len := by simpa using hi
    have := hB i (by omega)
    unfold Addr.add at this
    by_cases h0 : i = 0
    · subst h0; simpa using this
    · rw [if_neg h0] at this; simpa using this
end
end Go.Proofs.YtbhgekhcpagkoaaDoor
