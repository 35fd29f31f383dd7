/- Texts of this proof, laid into one: UrP, UrI, UrQ, UrR, UrT, UrY, UrZ. -/
import Derived.Test.YtlalpnnnnmcejaaGreatDoorMx05
/- uri.Target, walked. -/
set_option linter.unusedVariables false
set_option linter.unusedSimpArgs false
namespace Go.Proofs.YtlalpnnnnmcejaaGreatDoor
open Go Go.RowKit
theorem results_tmp4 {fn : Func} {t u v x : Tmp} (h : fn.results = #[.tmp t, .tmp u, .tmp v, .tmp x]) (tmps : Array Value) (P : Program) (w : World) :
    (results fn tmps).run P w = .ok (.tuple #[tmps.getD t undef, tmps.getD u undef, tmps.getD v undef, tmps.getD x undef]) w := by
  simp [results, h]
def TgtPost (s : List UInt8) (w : World) (e : Ending) (w' : World) : Prop :=
  ∃ v, e = .returned (.tuple #[.string ⟨(tgtL s).1.toArray⟩, v, .int .i64 ((tgtL s).2.2.1 : Nat), .int .i64 (tgtL s).2.2.2]) ∧ OwnU w w' v (tgtL s).2.1 ∧ Q w w'
theorem gx_app {w5 w8 w9 : World} {v : Value} {sp : List PairD} {a b : Nat} {x y : Int} (ho : OwnU w5 w8 v sp) (ha : a < w5.heap.size) (hb : b < w5.heap.size) (k8 : BI w8 a x) (k9 : BI w8 b y) (hg : GX [a, b] w5 w8) (h : w8.grownBy w9 v.ownBlock) :
    BI w9 a x ∧ BI w9 b y ∧ GX [a, b] w5 w9 := by
  have ne : ∀ k, k < w5.heap.size → v.ownBlock ≠ some k := fun k hk e => by have := (ho.block e).1; omega
  refine ⟨?_, ?_, ?_⟩
  · unfold BI; rw [h.block a k8.lt (fun e => ne a ha e.symm)]; exact k8
  · unfold BI; rw [h.block b k9.lt (fun e => ne b hb e.symm)]; exact k9
  · exact ⟨h.os.trans hg.os, h.tape.trans hg.tape, h.output.trans hg.output, Nat.le_trans hg.size h.size, fun k hk hn => (h.block k (Nat.lt_of_lt_of_le hk hg.size) (fun e => ne k hk e.symm)).trans (hg.block k hk hn)⟩
theorem gx_new {S : List Nat} {a b : World} (h : GX S a b) {g : Nat} (hg : a.heap.size ≤ g) (i : Nat) (v : Value) : GX S a (b.setCell ⟨g, i, none⟩ v) :=
  ⟨h.os, h.tape, h.output, by simpa using h.size, fun k hk hr => by
    rw [heap_setCell_other b ⟨g, i, none⟩ k v (by intro e; have : k = g := e; omega)]; exact h.block k hk hr⟩
theorem PB.set1 {w : World} {b : Nat} {x y : List UInt8} (h : PB w b (x, [])) : PB (w.setCell ⟨b, 1, none⟩ (.string ⟨y.toArray⟩)) b (x, y) := by
  unfold PB; rw [heap_setCell_any w b 1 _ _ _ _ h]; rfl
theorem PB.f {w : World} {b i : Nat} {p : PairD} (h : PB w b p) : w.frozen? ⟨b, i, none⟩ = false := frozen_of_row w b i _ _ h
set_option maxRecDepth 100000 in
set_option maxHeartbeats 4000000 in
theorem Target_any (s : List UInt8) (w : World) (h : U13 w) (hl : s.length ≤ 100000000) :
    Calls Tryz.prog 14 #[.string ⟨s.toArray⟩] w (TgtPost s w) := by
  have HU := Lib.hid h
  clear h
  have hpre : Lib.hasPrefix s [47] = decide (s.head? = some 47) := by
    rcases s with _ | ⟨x, r⟩
    · rfl
    · by_cases hx : x = 47
      · subst hx; simp [Lib.hasPrefix, List.isPrefixOf]
      · have hx' : ¬ 47 = x := fun e => hx e.symm
        simp [Lib.hasPrefix, List.isPrefixOf, hx, hx']
  have HPre : Hid (∀ W, Calls Tryz.prog 31 #[.string ⟨s.toArray⟩, .string ⟨#[47]⟩] W fun e w' => e = .returned (.bool (decide (s.head? = some 47))) ∧ w' = W) := Lib.hid (fun W => by
    rw [← hpre]; exact Tryz.strings_HasPrefix ⟨s.toArray⟩ ⟨#[47]⟩ W)
  clear hpre
  by_cases hh : s.head? = some 47
  case neg =>
    have HT : Hid (tgtL s = ([], [], 53, 0)) := Lib.hid (by unfold tgtL; rw [if_neg hh])
    go_enter Tryz.func14, Tryz.ntmps14
    go_wp2_with fail
    refine (HPre.out _).mono ?_
    rintro e w1 ⟨rfl, rfl⟩
    rw [decide_eq_false hh]
    go_wp2_with fail
    ((try simp only [Exit.inBlock, Exit.then]); refine bodyPost_ret (results_tmp4 rfl _ _ _) rfl ?_)
    unfold TgtPost
    rw [HT.out]
    exact ⟨.slice none 0 0, rfl, OwnU.nil _ _, Q.refl _⟩
  case pos =>
    obtain ⟨v, w1, hcv, hown, hq1, cap, hv⟩ := bytes_of s w (by omega)
    rw [hv] at hcv hown
    have HOW := Lib.hid hown
    have HQ1 := Lib.hid hq1
    clear hown hq1 hv
    go_enter Tryz.func14, Tryz.ntmps14
    go_wp2_with fail
    refine (HPre.out _).mono ?_
    rintro e w2 ⟨rfl, rfl⟩
    rw [decide_eq_true hh]
    go_wp2_with fail
    clear hcv HPre
    go_loopw [27] (fun i wr => ∃ k : Nat, k ≤ s.length ∧ i = .int .i64 (k : Int) ∧ Hid (∀ j, j < k → badC (gB s j) = false) ∧ wr = w1) (fun i _ => s.length - (intOf i).toNat)
    case atStart => exact ⟨0, by omega, rfl, Lib.hid (fun j h => by omega), rfl⟩
    case round =>
      obtain ⟨k, hk, rfl, HA, rfl⟩ := hrel
      by_cases hlt : k < s.length
      · have g1 : decide (k < s.length) = true := by simpa using hlt
        obtain ⟨g, cc, hv, _, _, _, hcell⟩ := HOW.out.pos (by omega)
        cases hv
        have cx := (hcell k hlt).1
        clear hcell
        rcases hb : badC (gB s k) with _ | _
        · have HA2 : Hid (∀ j, j < k + 1 → badC (gB s j) = false) := Lib.hid (fun j hj => by
            by_cases e : j = k
            · subst e; exact hb
            · exact HA.out j (by omega))
          obtain ⟨b, hgb⟩ : ∃ b, gB s k = b := ⟨_, rfl⟩
          rw [hgb] at hb cx
          unfold badC at hb
          simp only [Bool.or_eq_false_iff, decide_eq_false_iff_not, beq_eq_false_iff_ne] at hb
          obtain ⟨⟨b1, b2⟩, b3⟩ := hb
          have b1' : ¬ ((b.toNat : Int) ≤ 32) := by omega
          have b2' : ¬ ((126 : Int) < (b.toNat : Int)) := by omega
          have b3' : ¬ (b.toNat : Int) = 35 := fun h => b3 (UInt8.toNat_inj.mp (show b.toNat = 35 by omega))
          have b3e : ((b.toNat : Int) == 35) = false := by simpa using b3'
          go_wp2_with fail
          go_roundw
          case rel => exact ⟨k + 1, by omega, by go_num, HA2, trivial⟩
          case measure => simp [intOf]; omega
        · have HF : Hid (tgtL s = ([], [], 53, (k : Int))) := Lib.hid (by unfold tgtL; rw [if_pos hh, find_take s k hlt HA.out hb])
          obtain ⟨b, hgb⟩ : ∃ b, gB s k = b := ⟨_, rfl⟩
          rw [hgb] at hb cx
          have hc : (b.toNat : Int) ≤ 32 ∨ (¬ (b.toNat : Int) ≤ 32 ∧ (126 : Int) < (b.toNat : Int)) ∨ (¬ (b.toNat : Int) ≤ 32 ∧ ¬ (126 : Int) < (b.toNat : Int) ∧ (b.toNat : Int) = 35) := by
            unfold badC at hb
            simp only [Bool.or_eq_true, decide_eq_true_eq, beq_iff_eq] at hb
            rcases hb with (h | h) | h
            · left; omega
            · right; left; omega
            · right; right; subst h; decide
          clear hb
          have hz : s.length ≠ 0 := by omega
          rcases hc with hc | ⟨h1, hc⟩ | ⟨h1, h2, hc⟩
          all_goals
            go_wp2_with fail
            all_goals
              ((try simp only [Exit.inBlock, Exit.then]); refine bodyPost_ret (results_tmp4 rfl _ _ _) rfl ?_)
              unfold TgtPost
              rw [HF.out]
              exact ⟨.slice none 0 0, rfl, OwnU.nil _ _, HQ1.out⟩
      · obtain rfl : k = s.length := by omega
        have HN : Hid (s.findIdx? badC = none) := Lib.hid (find_none s HA.out)
        clear HA hlt hk HOW
        go_upto_region 12 with (fail)
        obtain ⟨W2, hW2⟩ : ∃ W, (wr.alloc (Obj.cells #[Value.int IntKind.i64 0] 3)).alloc (Obj.cells #[Value.int IntKind.i64 (-1)] 3) = W := ⟨_, rfl⟩
        have k8 : BI W2 wr.heap.size 0 := by rw [← hW2]; exact ((Q.refl _).alloc _).block (heap_alloc_new wr _)
        have k9 : BI W2 (wr.heap.size + 1) (-1) := by
          rw [← hW2]
          have := heap_alloc_new (wr.alloc (Obj.cells #[Value.int IntKind.i64 0] 3)) (Obj.cells #[Value.int IntKind.i64 (-1)] 3)
          rwa [World.size_alloc] at this
        have hq2 : Q w2 W2 := by rw [← hW2]; exact (HQ1.out.alloc _).alloc _
        have hN8 : w2.heap.size ≤ wr.heap.size := HQ1.out.size
        rw [hW2]
        clear hW2 HQ1
        generalize wr.heap.size = N8 at k8 k9 hN8 ⊢
        have HQ2 := Lib.hid hq2
        have HRun : Hid (∃ p q f, cutB 63 s = (p, q, f)) := Lib.hid ⟨_, _, _, rfl⟩
        obtain ⟨p, q, f, hpq⟩ := HRun.out
        have hlen : p.length + q.length ≤ s.length := by have := cutB_le 63 s; rw [hpq] at this; exact this
        have HR : Hid (runT s = (splitC 38 q).foldl stepT (startT p)) := Lib.hid (by unfold runT; rw [hpq])
        have HPQ := Lib.hid hpq
        clear HRun hpq hq2
        go_wp2_with fail
        refine (cut_any s 63 _ (HU.out.q HQ2.out).ml (by omega)).mono ?_
        rintro e W3 ⟨rfl, hq3⟩
        rw [HPQ.out]
        have k8 := k8.q hq3
        have k9 := k9.q hq3
        have HQ3 := Lib.hid (HQ2.out.trans hq3)
        clear hq3 HQ2
        go_wp2_with fail
        refine (Target1_any p N8 (N8 + 1) 0 (-1) W3 k8 k9 (by omega) (by omega) (by omega) (by omega) (by omega) (by omega)).mono ?_
        rintro e W4 ⟨rfl, k8, k9, hg4⟩
        have HQ4 := Lib.hid (hg4.toQ HQ3.out (by intro k hk; simp at hk; omega))
        have hN5 := k9.lt
        rw [show (0 : Int) + ((p.length : Int) + 1) = (startT p).at_ by simp [startT]] at k8
        rw [show badT p 0 (-1) = (startT p).bad from rfl] at k9
        clear hg4 HQ3
        obtain ⟨PD, hPD⟩ : ∃ PD, (decOut p).1 = PD := ⟨_, rfl⟩
        rw [hPD]
        have HPD := Lib.hid hPD
        clear hPD
        go_wp2_with fail
        refine (split_any q 38 _ (HU.out.q HQ4.out).ml (by omega)).mono ?_
        rintro e W5 ⟨rfl, hst, hq5⟩
        have k8 := k8.q hq5
        have k9 := k9.q hq5
        have hN5b := k9.lt
        have HQ5 := Lib.hid (HQ4.out.trans hq5)
        clear hq5 HQ4
        have HSM := Lib.hid (sumU_split 38 q)
        obtain ⟨ls, hls⟩ : ∃ ls, splitC 38 q = ls := ⟨_, rfl⟩
        rw [hls] at hst HR HSM ⊢
        have HST := Lib.hid hst
        generalize W4.heap.size = NS at hN5 HST ⊢
        clear hst hls
        go_wp2_with fail
        have hz0 : (0 : Int) ≤ (startT p).at_ ∧ -1 ≤ (startT p).bad ∧ (startT p).bad ≤ (startT p).at_ ∧ (startT p).at_ = (p.length : Int) + 1 := by
          have hb := badT_bd p 0 (-1) (by omega) (by omega) (by omega)
          have e1 : (startT p).at_ = (p.length : Int) + 1 := rfl
          have e2 : (startT p).bad = badT p 0 (-1) := rfl
          rw [e1, e2]; omega
        have HFold : Hid (∀ k, -1 ≤ ((ls.take k).foldl stepT (startT p)).bad ∧ ((ls.take k).foldl stepT (startT p)).bad ≤ ((ls.take k).foldl stepT (startT p)).at_ ∧ 0 ≤ ((ls.take k).foldl stepT (startT p)).at_ ∧ ((ls.take k).foldl stepT (startT p)).at_ ≤ 200000010) := Lib.hid (fun k => by
          have := foldT (ls.take k) (startT p) hz0.1 hz0.2.1 hz0.2.2.1
          have h2 := sumU_take ls k
          have h3 := HSM.out
          omega)
        have HLen : Hid (ls.length ≤ s.length + 1) := Lib.hid (by
          have := len_sumU ls
          have h3 := HSM.out; omega)
        have HPsl : Hid (∀ k, ((ls.take k).foldl stepT (startT p)).ps.length ≤ 200000010) := Lib.hid (fun k => by
          have := fold_len (ls.take k) (startT p)
          have h0 : (startT p).ps.length = 0 := rfl
          have h2 := HLen.out
          have h3 : (ls.take k).length ≤ ls.length := by rw [List.length_take]; omega
          omega)
        have HPart : Hid (∀ k, k < ls.length → (gL ls k).length ≤ 100000000) := Lib.hid (fun k hk => by
          have h1 := part_sumU ls k hk
          have h3 := HSM.out
          omega)
        clear hz0
        go_loopw [14, 57] (fun v i wr => ∃ k : Nat, k ≤ ls.length ∧ i = .int .i64 (k : Int) ∧ Hid (OwnU W5 wr v ((ls.take k).foldl stepT (startT p)).ps) ∧ Hid (BI wr N8 ((ls.take k).foldl stepT (startT p)).at_) ∧ Hid (BI wr (N8 + 1) ((ls.take k).foldl stepT (startT p)).bad) ∧ Hid (GX [N8, N8 + 1] W5 wr)) (fun _ i _ => ls.length - (intOf i).toNat)
        case atStart => exact ⟨0, by omega, rfl, Lib.hid (OwnU.nil _ _), Lib.hid k8, Lib.hid k9, Lib.hid (GX.refl _ _)⟩
        case round =>
          clear k8 k9
          obtain ⟨k, hk, rfl, HO, H8, H9, HG⟩ := hrel
          by_cases hlt : k < ls.length
          · have g1 : decide (k < ls.length) = true := by simpa using hlt
            have hstx := HST.out.x HG.out (by simp; omega)
            obtain ⟨ad, hada, hc⟩ := hstx.at hlt
            cases hada
            rw [add_off, Nat.zero_add] at hc
            have HSN := Lib.hid (fold_snoc ls k hlt (startT p))
            obtain ⟨pt, hpt⟩ : ∃ pt, gL ls k = pt := ⟨_, rfl⟩
            have hptl := HPart.out k hlt
            rw [hpt] at hc HSN hptl
            obtain ⟨⟨sp, sa, sb⟩, hst⟩ : ∃ st, (ls.take k).foldl stepT (startT p) = st := ⟨_, rfl⟩
            have hbd := HFold.out k
            have HPL := Lib.hid (HPsl.out k)
            rw [hst] at HO H8 H9 HSN hbd HPL
            simp only at hbd
            obtain ⟨b1, b2, b3, b4⟩ := hbd
            have hkb : k ≤ 100000001 := by have := HLen.out; omega
            clear hst hstx
            by_cases he : pt = []
            · subst he
              have c8 := H8.out.c
              have f8 := H8.out.f
              simp only at c8
              go_wp2_with fail
              have HS1 : Hid (stepT ⟨sp, sa, sb⟩ [] = ⟨sp, sa + 1, sb⟩) := Lib.hid (by unfold stepT; rw [if_pos rfl])
              rw [HS1.out] at HSN
              have hne8 : N8 + 1 ≠ N8 := by omega
              refine ⟨⟨k + 1, by omega, by go_num, Lib.hid ?_, Lib.hid ?_, Lib.hid ?_, Lib.hid ?_⟩, by simp [intOf]; omega⟩
              · rw [HSN.out]; exact HO.out.x (GX.set (GX.refl [N8, N8 + 1] wr) (by simp) _ _) (by intro y hy; simp at hy; omega)
              · rw [HSN.out]; exact H8.out.set _
              · rw [HSN.out]; exact H9.out.other hne8 _
              · exact GX.set HG.out (by simp) _ _
            · have he2 : pt.isEmpty = false := by simpa using he
              have HCL := Lib.hid (cutB_len 61 pt)
              have HCE := Lib.hid (cutB_le 61 pt)
              obtain ⟨nm, vl, f, hnv⟩ : ∃ nm vl f, cutB 61 pt = (nm, vl, f) := ⟨_, _, _, rfl⟩
              have hstep : stepT ⟨sp, sa, sb⟩ pt = if f = true then ⟨sp ++ [((decOut nm).1, (decOut vl).1)], sa + (nm.length + 1) + (vl.length + 1), badT vl (sa + (nm.length + 1)) (badT nm sa sb)⟩ else ⟨sp ++ [((decOut nm).1, [])], sa + (nm.length + 1), badT nm sa sb⟩ := by
                unfold stepT; rw [if_neg he, hnv]
              rw [hstep] at HSN
              rw [hnv] at HCE HCL
              have hnl := HCE.out
              simp only at hnl
              have HNV := Lib.hid hnv
              clear hstep hnv
              go_wp2_with fail
              refine (cut_any pt 61 _ (HU.out.q (HG.out.toQ HQ5.out (by intro y hy; simp at hy; omega))).ml (by omega)).mono ?_
              rintro e W6 ⟨rfl, hq6⟩
              rw [HNV.out]
              have HO6 := Lib.hid (HO.out.q hq6)
              have H86 := Lib.hid (H8.out.q hq6)
              have H96 := Lib.hid (H9.out.q hq6)
              have HG6 := Lib.hid (HG.out.trans (GX.q hq6))
              clear hq6 HO H8 H9 HG hc
              go_upto_region 22 with (first
                | (go_at_call 32; refine (Target1_any nm N8 (N8 + 1) sa sb W6 H86.out H96.out (by omega) (by omega) (by omega) (by omega) (by omega) (by omega)).mono ?_; rintro e W7 ⟨rfl, k8, k9, hg7⟩)
                | (refine wpList_store_row rfl 37 _ _ rfl W7.heap.size (pairL ((decOut nm).1, [])).toArray (by rfl) (by rfl) 37 _ (heap_alloc_new W7 _) infoP rfl (pairL_one _) ?_))
              obtain ⟨hpb, hq8⟩ := PB.make W7 ((decOut nm).1, [])
              obtain ⟨WX, hWX⟩ : ∃ W, (W7.alloc (.cells (pairL ([], [])).toArray 37)).setRow W7.heap.size (pairL ((decOut nm).1, [])).toArray = W := ⟨_, rfl⟩
              rw [hWX] at hpb hq8
              have hWX2 : (W7.alloc (.cells #[.string ⟨#[]⟩, .string ⟨#[]⟩] 37)).setRow W7.heap.size (pairL ((decOut nm).1, [])).toArray = WX := hWX
              rw [hWX2]
              have HOX := Lib.hid (((HO6.out).x hg7 (by intro y hy; simp at hy; omega)).q hq8)
              have H8X := Lib.hid (k8.q hq8)
              have H9X := Lib.hid (k9.q hq8)
              have HGX := Lib.hid ((HG6.out.trans hg7).trans (GX.q hq8))
              have HPB := Lib.hid hpb
              have hN7 : W5.heap.size ≤ W7.heap.size := (HG6.out.trans hg7).size
              have HNE : Hid (∀ g, u14.ownBlock = some g → g ≠ W7.heap.size) := Lib.hid (fun g hg e => by
                have h1 := (HO6.out.block hg).2.1
                have h2 := hg7.size
                omega)
              have hbn := badT_bd nm sa sb b3 b1 b2
              clear hWX hWX2 hpb hq8 k8 k9 hg7 HO6 H86 H96 HG6
              generalize W7.heap.size = N7 at HPB hN7 HNE ⊢
              simp only [Act.put, List.setIfInBounds_toArray, List.set_cons_succ, List.set_cons_zero]
              obtain ⟨DN, hDN⟩ : ∃ DN, (decOut nm).1 = DN := ⟨_, rfl⟩
              rw [hDN] at HPB HSN ⊢
              clear hDN
              rcases f with _ | _
              · rw [if_neg (by decide)] at HSN
                go_upto_region 24 with (fail)
                iterate 4 go_step
                refine wpList_load_row rfl 37 (.tmp 20) rfl N7 rfl _ _ _ _ HPB.out Tryz.underlying37 rfl infoP ?_
                simp only [pairL, Act.put, List.setIfInBounds_toArray, List.set_cons_succ, List.set_cons_zero]
                iterate 3 go_step
                refine wpList_append_u rfl (.tmp 80) (.tmp 82) rfl W5 WX u14 sp (DN, []) rfl HOX.out rfl HGX.out.size (by have h' : sp.length ≤ 200000010 := HPL.out; omega) ?_
                intro v9 w9 ho9 hg9
                obtain ⟨m8, m9, mg⟩ := gx_app HOX.out (by omega) (by omega) H8X.out H9X.out HGX.out hg9
                have HO9 := Lib.hid ho9
                have HM8 := Lib.hid m8
                have HM9 := Lib.hid m9
                have HMG := Lib.hid mg
                clear ho9 hg9 m8 m9 mg HOX H8X H9X HGX HPB
                go_wp2_with fail
                go_roundw
                case rel => exact ⟨k + 1, by omega, by go_num, by rw [HSN.out]; exact HO9, by rw [HSN.out]; exact HM8, by rw [HSN.out]; exact HM9, HMG⟩
                case measure => simp [intOf]; omega
              · rw [if_pos rfl] at HSN
                have hcl : nm.length + 1 + vl.length = pt.length := HCL.out.1 rfl
                go_wp2_with fail
                refine (Target1_any vl N8 (N8 + 1) (sa + (nm.length + 1)) (badT nm sa sb) WX H8X.out H9X.out (by omega) (by omega) (by omega) (by omega) (by omega) (by omega)).mono ?_
                rintro e WZ ⟨rfl, k8, k9, hg7⟩
                obtain ⟨DV, hDV⟩ : ∃ DV, (decOut vl).1 = DV := ⟨_, rfl⟩
                rw [hDV] at HSN ⊢
                clear hDV
                have hpz : PB WZ N7 (DN, []) := hg7.heap (by simp; omega) HPB.out
                have cz := hpz.c1
                have fz := hpz.f (i := 1)
                have HOZ := Lib.hid (HOX.out.x hg7 (by intro y hy; simp at hy; omega))
                have HGZ := Lib.hid (HGX.out.trans hg7)
                have H8Z := Lib.hid k8
                have H9Z := Lib.hid k9
                have HPZ := Lib.hid hpz
                clear hpz k8 k9 hg7 HOX H8X H9X HGX HPB
                go_upto_region 24 with (fail)
                obtain ⟨WY, hWY⟩ : ∃ W, WZ.setCell ⟨N7, 1, none⟩ (.string ⟨DV.toArray⟩) = W := ⟨_, rfl⟩
                have HPB : Hid (PB WY N7 (DN, DV)) := Lib.hid (by rw [← hWY]; exact HPZ.out.set1)
                have H8X := Lib.hid (H8Z.out.other (show N8 ≠ N7 by omega) (.string ⟨DV.toArray⟩) (w := WZ))
                have HOX : Hid (OwnU W5 WY u14 sp) := Lib.hid (by
                  rw [← hWY]
                  exact HOZ.out.g (gb_set (b := WZ) (g := N7) ⟨rfl, rfl, rfl, Nat.le_refl _, fun _ _ _ => rfl⟩ 1 _) (fun g hg e => HNE.out g hg (by injection e with e; exact e.symm)))
                have HGX : Hid (GX [N8, N8 + 1] W5 WY) := Lib.hid (by rw [← hWY]; exact gx_new HGZ.out hN7 1 _)
                have HB8 : Hid (BI WY N8 (sa + (nm.length + 1) + (vl.length + 1))) := Lib.hid (by
                  rw [← hWY]; unfold BI; rw [heap_setCell_other WZ ⟨N7, 1, none⟩ N8 _ (by intro e; have : N8 = N7 := e; omega)]; exact H8Z.out)
                have HB9 : Hid (BI WY (N8 + 1) (badT vl (sa + (nm.length + 1)) (badT nm sa sb))) := Lib.hid (by
                  rw [← hWY]; unfold BI; rw [heap_setCell_other WZ ⟨N7, 1, none⟩ (N8 + 1) _ (by intro e; have : N8 + 1 = N7 := e; omega)]; exact H9Z.out)
                rw [hWY]
                clear hWY H8X HOZ HGZ H8Z H9Z HPZ cz fz
                have H8X := HB8
                have H9X := HB9
                clear HB8 HB9
                iterate 4 go_step
                refine wpList_load_row rfl 37 (.tmp 20) rfl N7 rfl _ _ _ _ HPB.out Tryz.underlying37 rfl infoP ?_
                simp only [pairL, Act.put, List.setIfInBounds_toArray, List.set_cons_succ, List.set_cons_zero]
                iterate 3 go_step
                refine wpList_append_u rfl (.tmp 80) (.tmp 82) rfl W5 WY u14 sp (DN, DV) rfl HOX.out rfl HGX.out.size (by have h' : sp.length ≤ 200000010 := HPL.out; omega) ?_
                intro v9 w9 ho9 hg9
                obtain ⟨m8, m9, mg⟩ := gx_app HOX.out (by omega) (by omega) H8X.out H9X.out HGX.out hg9
                have HO9 := Lib.hid ho9
                have HM8 := Lib.hid m8
                have HM9 := Lib.hid m9
                have HMG := Lib.hid mg
                clear ho9 hg9 m8 m9 mg HOX H8X H9X HGX HPB
                go_wp2_with fail
                go_roundw
                case rel => exact ⟨k + 1, by omega, by go_num, by rw [HSN.out]; exact HO9, by rw [HSN.out]; exact HM8, by rw [HSN.out]; exact HM9, HMG⟩
                case measure => simp [intOf]; omega
          · obtain rfl : k = ls.length := by omega
            have hbd := HFold.out ls.length
            rw [List.take_length] at HO H8 H9 hbd
            rw [← HR.out] at HO H8 H9 hbd
            have HQ9 := Lib.hid (HG.out.toQ HQ5.out (by intro y hy; simp at hy; omega))
            have HOW : Hid (OwnU w2 wr u14 (runT s).ps) := Lib.hid (by
              refine ⟨HO.out.1, ?_⟩
              rcases HO.out.2 with h1 | ⟨g, cap, cur, hv, h1, h2⟩
              · exact .inl h1
              · exact .inr ⟨g, cap, cur, hv, by have := HQ5.out.size; omega, h2⟩)
            have HFT : Hid (tgtL s = if 0 ≤ (runT s).bad then ([], [], 52, (runT s).bad) else (PD, (runT s).ps, 0, 0)) := Lib.hid (by
              unfold tgtL; rw [if_pos hh, HN.out, HPQ.out, ← HPD.out])
            obtain ⟨⟨sp, sa, sb⟩, hst⟩ : ∃ st, runT s = st := ⟨_, rfl⟩
            rw [hst] at HO H8 H9 hbd HOW HFT
            simp only at hbd
            have c9 := H9.out.c
            simp only at c9
            clear HO H8 HR HFold HPsl HPart HLen HSM HST hst
            by_cases h0 : 0 ≤ sb
            · rw [if_pos h0] at HFT
              go_wp2_with fail
              go_region
              all_goals
                go_wp2_with fail
                ((try simp only [Exit.inBlock, Exit.then]); refine bodyPost_ret (results_tmp4 rfl _ _ _) rfl ?_)
                unfold TgtPost
                rw [HFT.out]
                exact ⟨.slice none 0 0, rfl, OwnU.nil _ _, HQ9.out.drew⟩
            · rw [if_neg h0] at HFT
              go_wp2_with fail
              ((try simp only [Exit.inBlock, Exit.then]); refine bodyPost_ret (results_tmp4 rfl _ _ _) rfl ?_)
              unfold TgtPost
              rw [HFT.out]
              exact ⟨u14, rfl, HOW.out, HQ9.out⟩
end Go.Proofs.YtlalpnnnnmcejaaGreatDoor
/- uri.Bucket, walked. -/
set_option linter.unusedVariables false
set_option linter.unusedSimpArgs false
namespace Go.Proofs.YtlalpnnnnmcejaaGreatDoor
open Go Go.RowKit
theorem bucket_len {s : List UInt8} (h : s.length < 3 ∨ 63 < s.length) : bucketL s = false := by
  unfold bucketL
  rcases h with h | h
  · rw [decide_eq_false (by omega : ¬ 3 ≤ s.length)]; simp
  · rw [decide_eq_false (by omega : ¬ s.length ≤ 63)]; simp
theorem gL_mem {ls : List (List UInt8)} {k : Nat} (h : k < ls.length) : gL ls k ∈ ls := by
  have : gL ls k = ls[k] := by simp [gL, List.getD, h]
  rw [this]; exact List.getElem_mem h
theorem bucket_bad {s : List UInt8} {k : Nat} (h : k < (splitC 46 s).length) (hb : labOk (gL (splitC 46 s) k) = false) : bucketL s = false := by
  have : (splitC 46 s).all labOk = false := by
    rw [List.all_eq_false]
    exact ⟨_, gL_mem h, by rw [hb]; simp⟩
  unfold bucketL
  rw [this]; simp
theorem countP_snoc (ls : List (List UInt8)) (k : Nat) (h : k < ls.length) : (ls.take (k + 1)).countP numL = (ls.take k).countP numL + if numL (gL ls k) then 1 else 0 := by
  have e : gL ls k = ls[k] := by simp [gL, List.getD, h]
  rw [List.take_add_one, List.getElem?_eq_getElem h, List.countP_append, e]
  simp [List.countP_cons]
theorem all_snoc (ls : List (List UInt8)) (k : Nat) (h : k < ls.length) (h1 : (ls.take k).all labOk = true) (h2 : labOk (gL ls k) = true) : (ls.take (k + 1)).all labOk = true := by
  have e : gL ls k = ls[k] := by simp [gL, List.getD, h]
  rw [List.take_add_one, List.getElem?_eq_getElem h, List.all_append, h1, ← e]
  simp [h2]
set_option maxRecDepth 100000 in
set_option maxHeartbeats 2000000 in
theorem Bucket_any (s : List UInt8) (w : World) (h : U13 w) :
    Calls Tryz.prog 18 #[.string ⟨s.toArray⟩] w fun e w' => e = .returned (.bool (bucketL s)) ∧ Q w w' := by
  have HU := Lib.hid h
  clear h
  go_enter Tryz.func18, Tryz.ntmps18
  by_cases hlen : s.length < 3 ∨ 63 < s.length
  · have HB := Lib.hid (bucket_len hlen)
    rcases hlen with h1 | h1
    · go_wp2_with fail
      all_goals (go_ret; rw [HB.out]; exact ⟨rfl, Q.refl _⟩)
    · have h2 : ¬ s.length < 3 := by omega
      go_wp2_with fail
      all_goals (go_ret; rw [HB.out]; exact ⟨rfl, Q.refl _⟩)
  · have h1 : ¬ s.length < 3 := by omega
    have h2 : ¬ 63 < s.length := by omega
    have h3 : s.length ≤ 63 := by omega
    clear hlen
    go_wp2_with fail
    refine (split_any s 46 _ HU.out.ml (by omega)).mono ?_
    rintro e w1 ⟨rfl, hst, hq1⟩
    have HP : Hid (∀ p ∈ splitC 46 s, p.length ≤ 63) := Lib.hid (fun p hp => Nat.le_trans (splitC_len 46 s p hp) h3)
    obtain ⟨ls, hls⟩ : ∃ ls, splitC 46 s = ls := ⟨_, rfl⟩
    rw [hls] at hst HP ⊢
    have hll : ls.length ≤ 64 := by
      rw [← hls, splitC_count]; have := List.count_le_length (a := (46 : UInt8)) (l := s); omega
    have hl1 : 1 ≤ ls.length := by rw [← hls, splitC_count]; omega
    have HLS := Lib.hid hls
    have HST := Lib.hid hst
    clear hst hls
    go_wp2_with fail
    go_loopw [4, 19] (fun m i wr => ∃ k : Nat, k ≤ ls.length ∧ i = .int .i64 k ∧ m = .int .i64 ((ls.take k).countP numL : Nat) ∧ Hid ((ls.take k).all labOk = true) ∧ Q w1 wr) (fun _ i _ => ls.length - (intOf i).toNat)
    case atStart => exact ⟨0, by omega, rfl, by simp, Lib.hid (by simp), Q.refl _⟩
    case round =>
      obtain ⟨k, hk, rfl, rfl, HA, hq⟩ := hrel
      by_cases hlt : k < ls.length
      · obtain ⟨ad, hada, hc⟩ := (HST.out.q hq).at hlt
        cases hada
        have hpl := HP.out _ (gL_mem hlt)
        have hcp : (ls.take k).countP numL ≤ 64 := Nat.le_trans List.countP_le_length (by rw [List.length_take]; omega)
        have HQ := Lib.hid hq
        obtain ⟨p, hp⟩ : ∃ p, gL ls k = p := ⟨_, rfl⟩
        rw [hp] at hc hpl
        rw [add_off, Nat.zero_add] at hc
        have HBad : Hid (labOk p = false → bucketL s = false) := Lib.hid (fun hb => by
          have := bucket_bad (s := s) (k := k) (by rw [HLS.out]; exact hlt) (by rw [HLS.out, hp]; exact hb)
          exact this)
        clear hq
        by_cases he : p = []
        · subst he
          have HB := Lib.hid (HBad.out (by simp [labOk, labBad]))
          go_wp2_with fail
          all_goals (go_ret; rw [HB.out]; exact ⟨rfl, hq1.trans HQ.out⟩)
        · have hpos : 1 ≤ p.length := List.length_pos_iff.mpr he
          have he2 : p.isEmpty = false := by simpa using he
          by_cases hf : gB p 0 = 45
          · have hfn : (gB p 0).toNat = 45 := by rw [hf]; rfl
            have HB := Lib.hid (HBad.out (by simp [labOk, labBad, hf]))
            go_wp2_with fail
            all_goals (go_ret; rw [HB.out]; exact ⟨rfl, hq1.trans HQ.out⟩)
          · have hfn : ¬ ((gB p 0).toNat : Int) = 45 := fun h => hf (UInt8.toNat_inj.mp (show (gB p 0).toNat = 45 by omega))
            have hfe : (((gB p 0).toNat : Int) == 45) = false := by simpa using hfn
            obtain ⟨n, hn⟩ : ∃ n, p.length - 1 = n := ⟨_, rfl⟩
            have hn1 : (p.length : Int) - 1 = (n : Int) := by omega
            have hn2 : n < p.length := by omega
            by_cases hg : gB p n = 45
            · have hgn : (gB p n).toNat = 45 := by rw [hg]; rfl
              have HB := Lib.hid (HBad.out (by simp [labOk, labBad, hn, hg]))
              go_wp2_with fail
              all_goals (go_ret; rw [HB.out]; exact ⟨rfl, hq1.trans HQ.out⟩)
            · have hgn : ¬ ((gB p n).toNat : Int) = 45 := fun h => hg (UInt8.toNat_inj.mp (show (gB p n).toNat = 45 by omega))
              have hge : (((gB p n).toNat : Int) == 45) = false := by simpa using hgn
              have HLab : Hid (labOk p = p.all chrOk) := Lib.hid (by simp [labOk, labBad, hn, hg, hf, he2])
              have HCnt := Lib.hid (countP_snoc ls k hlt)
              have HAll := Lib.hid (all_snoc ls k hlt HA.out)
              rw [hp] at HCnt HAll
              have HTn := Lib.hid (trim_num p)
              have HLow := Lib.hid (lower_test p)
              go_wp2_with fail
              refine (trim_any p _ (by omega)).mono ?_
              rintro e w2 ⟨rfl, hq2⟩
              obtain ⟨T, hT⟩ : ∃ T, Lib.trimS p [48, 49, 50, 51, 52, 53, 54, 55, 56, 57] = T := ⟨_, rfl⟩
              have hTe : T.isEmpty = numL p := by rw [← HTn.out, hT]; rcases T with _ | _ <;> rfl
              rw [hT]
              obtain ⟨L, hL⟩ : ∃ L, Lib.toLowerD p = L := ⟨_, rfl⟩
              have HQ2 := Lib.hid (HQ.out.trans hq2)
              clear hq2 hT
              rcases hnum : numL p with _ | _
              · rw [hnum] at hTe HCnt
                go_wp2_with fail
                refine (lower_any p _ (by omega) (HU.out.q (hq1.trans HQ2.out))).mono ?_
                rintro e w3 ⟨rfl, hq3⟩
                rw [hL]
                have HQ3 := Lib.hid (HQ2.out.trans hq3)
                clear hq3
                rcases heq : (L == p) with _ | _
                · have HB := Lib.hid (HBad.out (by have := HLow.out; rw [hL, heq] at this; rw [HLab.out]; simpa using this))
                  go_wp2_with fail
                  all_goals (go_ret; rw [HB.out]; exact ⟨rfl, hq1.trans HQ3.out⟩)
                · go_wp2_with fail
                  refine (contains_bad p _).mono ?_
                  rintro e w4 ⟨rfl, hq4⟩
                  have HQ4 := Lib.hid (HQ3.out.trans hq4)
                  clear hq4
                  rcases hany : p.any (fun b => badR b.toNat) with _ | _
                  · have HOK : Hid (labOk p = true) := Lib.hid (by have := HLow.out; rw [hL, heq, hany] at this; rw [HLab.out]; simpa using this)
                    go_wp2_with fail
                    go_roundw
                    case rel => exact ⟨k + 1, by omega, by go_num, by rw [HCnt.out]; go_num, Lib.hid (HAll.out HOK.out), HQ4.out⟩
                    case measure => simp [intOf]; omega
                  · have HB := Lib.hid (HBad.out (by have := HLow.out; rw [hL, heq, hany] at this; rw [HLab.out]; simpa using this))
                    go_wp2_with fail
                    all_goals (go_ret; rw [HB.out]; exact ⟨rfl, hq1.trans HQ4.out⟩)
              · rw [hnum] at hTe HCnt
                go_wp2_with fail
                refine (lower_any p _ (by omega) (HU.out.q (hq1.trans HQ2.out))).mono ?_
                rintro e w3 ⟨rfl, hq3⟩
                rw [hL]
                have HQ3 := Lib.hid (HQ2.out.trans hq3)
                clear hq3
                rcases heq : (L == p) with _ | _
                · have HB := Lib.hid (HBad.out (by have := HLow.out; rw [hL, heq] at this; rw [HLab.out]; simpa using this))
                  go_wp2_with fail
                  all_goals (go_ret; rw [HB.out]; exact ⟨rfl, hq1.trans HQ3.out⟩)
                · go_wp2_with fail
                  refine (contains_bad p _).mono ?_
                  rintro e w4 ⟨rfl, hq4⟩
                  have HQ4 := Lib.hid (HQ3.out.trans hq4)
                  clear hq4
                  rcases hany : p.any (fun b => badR b.toNat) with _ | _
                  · have HOK : Hid (labOk p = true) := Lib.hid (by have := HLow.out; rw [hL, heq, hany] at this; rw [HLab.out]; simpa using this)
                    go_wp2_with fail
                    go_roundw
                    case rel => exact ⟨k + 1, by omega, by go_num, by rw [HCnt.out]; go_num, Lib.hid (HAll.out HOK.out), HQ4.out⟩
                    case measure => simp [intOf]; omega
                  · have HB := Lib.hid (HBad.out (by have := HLow.out; rw [hL, heq, hany] at this; rw [HLab.out]; simpa using this))
                    go_wp2_with fail
                    all_goals (go_ret; rw [HB.out]; exact ⟨rfl, hq1.trans HQ4.out⟩)
      · obtain rfl : k = ls.length := by omega
        have hA := HA.out
        rw [List.take_length] at hA ⊢
        have HB : Hid (bucketL s = (decide (ls.countP numL < ls.length) || decide (ls.length ≠ 4))) := Lib.hid (by
          unfold bucketL; rw [HLS.out, hA, decide_eq_true (by omega : 3 ≤ s.length), decide_eq_true h3]; simp)
        by_cases hc : ls.countP numL < ls.length
        · go_wp2_with fail
          all_goals (go_ret; rw [HB.out, decide_eq_true hc]; exact ⟨by simp, hq1.trans hq⟩)
        · go_wp2_with fail
          have hne : ((ls.length : Int) != 4) = decide (ls.length ≠ 4) := by
            by_cases h4 : ls.length = 4
            · simp [h4]
            · have : ¬ (ls.length : Int) = 4 := by omega
              simp [h4, this]
          all_goals
            go_ret
            rw [HB.out, decide_eq_false hc, ← hne]
            exact ⟨by simp, hq1.trans hq⟩
end Go.Proofs.YtlalpnnnnmcejaaGreatDoor
/- The chapter's examples, plainly. -/
set_option linter.unusedVariables false
set_option linter.unusedSimpArgs false
namespace Go.Proofs.YtlalpnnnnmcejaaGreatDoor
open Go Go.RowKit
def ex1 : List UInt8 := [47, 98, 47, 97, 37, 50, 48, 98, 63, 118, 101, 114, 115, 105, 111, 110, 115, 38, 112, 114, 101, 102, 105, 120, 61, 120, 37, 50, 70, 38]
def exV : List UInt8 := [118, 101, 114, 115, 105, 111, 110, 115]
def exP : List UInt8 := [112, 114, 101, 102, 105, 120]
theorem ex1_tgt : tgtL ex1 = ([47, 98, 47, 97, 32, 98], [(exV, []), (exP, [120, 47])], 0, 0) := by decide +kernel
theorem ex2_tgt : tgtL [47, 63, 97, 61, 37, 52, 38, 98, 61, 49] = ([], [], 52, 4) := by decide +kernel
theorem ex_split : splitU [47, 98, 47, 107, 47, 108] = ([98], [107, 47, 108]) := by decide +kernel
theorem ex_enc1 : encL true [97, 32, 98, 47] = [97, 37, 50, 48, 98, 37, 50, 70] := by decide +kernel
theorem ex_enc2 : encL false [97, 32, 98, 47] = [97, 37, 50, 48, 98, 47] := by decide +kernel
theorem ex_b1 : bucketL [109, 121, 45, 98, 46, 49] = true := by decide +kernel
theorem ex_b2 : bucketL [49, 46, 50, 46, 51, 46, 52] = false := by decide +kernel
theorem ex_map : [(exV, ([] : List UInt8)), (exP, [120, 47])].map encP = [(exV, []), (exP, [120, 37, 50, 70])] := by decide +kernel
theorem ex_sort : sortP [(exV, []), (exP, [120, 37, 50, 70])] = [(exP, [120, 37, 50, 70]), (exV, [])] := by
  have h : (ltOf pcmp) (exP, [120, 37, 50, 70]) (exV, []) = true := by decide +kernel
  unfold sortP
  simp [List.mergeSort, List.MergeSort.Internal.splitInTwo, h]
theorem ex_canon : canonL [(exV, []), (exP, [120, 47])] = [112, 114, 101, 102, 105, 120, 61, 120, 37, 50, 70, 38, 118, 101, 114, 115, 105, 111, 110, 115, 61] := by
  unfold canonL partsL
  rw [ex_map, ex_sort]
  decide +kernel
end Go.Proofs.YtlalpnnnnmcejaaGreatDoor
/- The chapter's examples, walked. -/
set_option linter.unusedVariables false
set_option linter.unusedSimpArgs false
namespace Go.Proofs.YtlalpnnnnmcejaaGreatDoor
open Go Go.RowKit
set_option maxRecDepth 100000 in
set_option maxHeartbeats 2000000 in
theorem examples13_any (w : World) (h : U13 w) : Calls Tryz.prog 8 #[] w fun e w' => e = .returned (.bool true) ∧ Q w w' := by
  have HT1 : Hid (∀ W, U13 W → Calls Tryz.prog 14 #[.string ⟨ex1.toArray⟩] W fun e w' => ∃ v, e = .returned (.tuple #[.string ⟨#[47, 98, 47, 97, 32, 98]⟩, v, .int .i64 0, .int .i64 0]) ∧ OwnU W w' v [(exV, []), (exP, [120, 47])] ∧ Q W w') := Lib.hid (fun W hW => by
    have := Target_any ex1 W hW (by decide)
    unfold TgtPost at this
    rw [ex1_tgt] at this
    exact this)
  have HT2 : Hid (∀ W, U13 W → Calls Tryz.prog 14 #[.string ⟨#[47, 63, 97, 61, 37, 52, 38, 98, 61, 49]⟩] W fun e w' => ∃ v, e = .returned (.tuple #[.string ⟨#[]⟩, v, .int .i64 52, .int .i64 4]) ∧ Q W w') := Lib.hid (fun W hW => by
    have := Target_any [47, 63, 97, 61, 37, 52, 38, 98, 61, 49] W hW (by decide)
    unfold TgtPost at this
    rw [ex2_tgt] at this
    exact this.mono fun e w' ⟨v, h1, _, h3⟩ => ⟨v, h1, h3⟩)
  have HS : Hid (∀ W, U13 W → Calls Tryz.prog 19 #[.string ⟨#[47, 98, 47, 107, 47, 108]⟩] W fun e w' => e = .returned (.tuple #[.string ⟨#[98]⟩, .string ⟨#[107, 47, 108]⟩]) ∧ Q W w') := Lib.hid (fun W hW => by
    have := Split_any [47, 98, 47, 107, 47, 108] W hW (by decide)
    rw [ex_split] at this
    exact this)
  have HE1 : Hid (∀ W, Calls Tryz.prog 11 #[.string ⟨#[97, 32, 98, 47]⟩, .bool true] W fun e w' => e = .returned (.string ⟨#[97, 37, 50, 48, 98, 37, 50, 70]⟩) ∧ Q W w') := Lib.hid (fun W => by
    have := Encode_any [97, 32, 98, 47] true W (by decide)
    rw [ex_enc1] at this
    exact this)
  have HE2 : Hid (∀ W, Calls Tryz.prog 11 #[.string ⟨#[97, 32, 98, 47]⟩, .bool false] W fun e w' => e = .returned (.string ⟨#[97, 37, 50, 48, 98, 47]⟩) ∧ Q W w') := Lib.hid (fun W => by
    have := Encode_any [97, 32, 98, 47] false W (by decide)
    rw [ex_enc2] at this
    exact this)
  have HB1 : Hid (∀ W, U13 W → Calls Tryz.prog 18 #[.string ⟨#[109, 121, 45, 98, 46, 49]⟩] W fun e w' => e = .returned (.bool true) ∧ Q W w') := Lib.hid (fun W hW => by
    have := Bucket_any [109, 121, 45, 98, 46, 49] W hW
    rw [ex_b1] at this
    exact this)
  have HB2 : Hid (∀ W, U13 W → Calls Tryz.prog 18 #[.string ⟨#[49, 46, 50, 46, 51, 46, 52]⟩] W fun e w' => e = .returned (.bool false) ∧ Q W w') := Lib.hid (fun W hW => by
    have := Bucket_any [49, 46, 50, 46, 51, 46, 52] W hW
    rw [ex_b2] at this
    exact this)
  have HC : Hid (∀ (A : Option Addr) (cap : Nat) W, PairsAt W A 2 [(exV, []), (exP, [120, 47])] → 2 ≤ cap → cap ≤ 9223372036854775807 → Calls Tryz.prog 16 #[.slice A 2 cap] W fun e w' => e = .returned (.string ⟨#[112, 114, 101, 102, 105, 120, 61, 120, 37, 50, 70, 38, 118, 101, 114, 115, 105, 111, 110, 115, 61]⟩) ∧ Q W w') := Lib.hid (fun A cap W hp h1 h2 => by
    have := Canon_any A 2 cap [(exV, []), (exP, [120, 47])] W hp h1 h2 (by decide) (by decide)
    rw [ex_canon] at this
    exact this)
  have HU := Lib.hid h
  clear h
  go_enter Tryz.func8, Tryz.ntmps8
  go_wp2_with fail
  refine (HT1.out _ HU.out).mono ?_
  rintro e w1 ⟨v, rfl, ho, hq1⟩
  obtain ⟨A, cap, rfl, hcap, hpa⟩ := ho.pairs
  have hcm : cap ≤ 9223372036854775807 := by
    rcases ho.2 with ⟨h1, _⟩ | ⟨g, c2, cur, h1, _, _, _, hm, _⟩
    · injection h1 with _ h2 _; cases h2
    · injection h1 with _ _ h3; subst h3; exact hm
  simp only [List.length_cons, List.length_nil, Nat.zero_add, Nat.reduceAdd] at hcap hpa ⊢
  obtain ⟨g, off, rfl, e0, e1⟩ := hpa.at (show 0 < 2 by omega)
  obtain ⟨g2, off2, h2, e2, e3⟩ := hpa.at (show 1 < 2 by omega)
  cases h2
  have HPA := Lib.hid hpa
  have HCM := Lib.hid (And.intro hcap hcm)
  have HQ1 := Lib.hid hq1
  have HE := Lib.hid (And.intro (And.intro e0 e1) (And.intro e2 e3))
  clear hq1 ho hpa hcm hcap e0 e1 e2 e3
  go_wp2_with fail
  refine (HT2.out _ (HU.out.q HQ1.out)).mono ?_
  rintro e w2 ⟨v2, rfl, hq2⟩
  have HQ2 := Lib.hid (HQ1.out.trans hq2)
  have HPA2 := Lib.hid (HPA.out.q hq2)
  clear hq2 HE HPA
  go_wp2_with fail
  refine (HS.out _ (HU.out.q HQ2.out)).mono ?_
  rintro e w3 ⟨rfl, hq3⟩
  have HQ3 := Lib.hid (HQ2.out.trans hq3)
  have HPA3 := Lib.hid (HPA2.out.q hq3)
  clear hq3 HPA2
  go_wp2_with fail
  refine (HE1.out _).mono ?_
  rintro e w4 ⟨rfl, hq4⟩
  have HQ4 := Lib.hid (HQ3.out.trans hq4)
  have HPA4 := Lib.hid (HPA3.out.q hq4)
  clear hq4 HPA3
  go_wp2_with fail
  refine (HE2.out _).mono ?_
  rintro e w5 ⟨rfl, hq5⟩
  have HQ5 := Lib.hid (HQ4.out.trans hq5)
  have hp5 := HPA4.out.q hq5
  have HPA5 := Lib.hid hp5
  obtain ⟨g2, off2, h2, e0, e1⟩ := hp5.at (show 0 < 2 by omega)
  cases h2
  obtain ⟨g2, off2, h2, e2, e3⟩ := hp5.at (show 1 < 2 by omega)
  cases h2
  simp only [gU, exV, exP, List.getD_cons_zero, List.getD_cons_succ, Nat.zero_mul, Nat.add_zero, Nat.one_mul] at e0 e1 e2 e3
  clear hq5 HPA4 hp5
  go_wp2_with fail
  clear e0 e1 e2 e3
  refine (HB1.out _ (HU.out.q HQ5.out)).mono ?_
  rintro e w6 ⟨rfl, hq6⟩
  have HQ6 := Lib.hid (HQ5.out.trans hq6)
  have HPA6 := Lib.hid (HPA5.out.q hq6)
  clear hq6 HPA5
  go_wp2_with fail
  refine (HB2.out _ (HU.out.q HQ6.out)).mono ?_
  rintro e w7 ⟨rfl, hq7⟩
  have HQ7 := Lib.hid (HQ6.out.trans hq7)
  have HPA7 := Lib.hid (HPA6.out.q hq7)
  clear hq7 HPA6
  go_wp2_with fail
  refine (HC.out _ cap _ HPA7.out HCM.out.1 HCM.out.2).mono ?_
  rintro e w8 ⟨rfl, hq8⟩
  go_wp2_with fail
  go_ret
  exact ⟨rfl, HQ7.out.trans hq8⟩
end Go.Proofs.YtlalpnnnnmcejaaGreatDoor
/- UriBuckets: the law. -/
set_option linter.unusedVariables false
set_option linter.unusedSimpArgs false
namespace Go.Proofs.YtlalpnnnnmcejaaGreatDoor
open Go Go.RowKit
theorem splitC_mem (c : UInt8) (l : List UInt8) : ∀ b ∈ l, b = c ∨ ∃ p ∈ splitC c l, b ∈ p := by
  induction l with
  | nil => simp
  | cons x r ih =>
    intro b hb
    by_cases hx : x = c
    · rcases List.mem_cons.1 hb with rfl | hb
      · exact .inl hx
      · rcases ih b hb with h | ⟨p, hp, h⟩
        · exact .inl h
        · refine .inr ⟨p, ?_, h⟩
          unfold splitC; rw [if_pos hx]; exact List.mem_cons_of_mem _ hp
    · unfold splitC; rw [if_neg hx]
      rcases hs : splitC c r with _ | ⟨h, t⟩
      · exact absurd hs (splitC_ne c r)
      · rcases List.mem_cons.1 hb with rfl | hb
        · exact .inr ⟨b :: h, List.mem_cons_self, List.mem_cons_self⟩
        · rcases ih b hb with h1 | ⟨p, hp, h1⟩
          · exact .inl h1
          · rw [hs] at hp
            rcases List.mem_cons.1 hp with rfl | hp
            · exact .inr ⟨x :: p, List.mem_cons_self, List.mem_cons_of_mem _ h1⟩
            · exact .inr ⟨p, List.mem_cons_of_mem _ hp, h1⟩
theorem chr_free : ∀ b : UInt8, chrOk b = true ∨ b = 46 → freeL true b = true ∧ b ≠ 47 := by
  have h : ∀ n : Fin 256, chrOk n.val.toUInt8 = true ∨ n.val.toUInt8 = 46 → freeL true n.val.toUInt8 = true ∧ n.val.toUInt8 ≠ 47 := by decide +kernel
  intro b hb
  have := h ⟨b.toNat, b.toNat_lt⟩
  simp only [UInt8.ofNat_toNat, Nat.toUInt8_eq] at this
  exact this hb
theorem encL_id {l : List UInt8} (h : ∀ b ∈ l, freeL true b = true) : encL true l = l := by
  unfold encL
  induction l with
  | nil => rfl
  | cons a r ih =>
    rw [List.flatMap_cons, ih (fun b hb => h b (List.mem_cons_of_mem _ hb))]
    unfold encB; rw [if_pos (h a List.mem_cons_self)]; rfl
theorem cutB_none {c : UInt8} {l : List UInt8} (h : ∀ b ∈ l, b ≠ c) : cutB c l = (l, [], false) := by
  induction l with
  | nil => rfl
  | cons a r ih =>
    unfold cutB
    rw [if_neg (h a List.mem_cons_self), ih (fun b hb => h b (List.mem_cons_of_mem _ hb))]
theorem bucket_facts {s : List UInt8} (h : bucketL s = true) : 3 ≤ s.length ∧ s.length ≤ 63 ∧ encL true s = s ∧ splitU (47 :: s) = (s, []) ∧ gB s 0 ≠ 45 ∧ gB s 0 ≠ 46 := by
  unfold bucketL at h
  simp only [Bool.and_eq_true, decide_eq_true_eq] at h
  obtain ⟨⟨⟨h1, h2⟩, h3⟩, _⟩ := h
  rw [List.all_eq_true] at h3
  have hb : ∀ b ∈ s, chrOk b = true ∨ b = 46 := by
    intro b hm
    rcases splitC_mem 46 s b hm with h | ⟨p, hp, h⟩
    · exact .inr h
    · have := h3 p hp
      unfold labOk at this
      simp only [Bool.and_eq_true] at this
      exact .inl (List.all_eq_true.1 this.2 b h)
  refine ⟨h1, h2, encL_id (fun b hm => (chr_free b (hb b hm)).1), ?_, ?_⟩
  · have := cutB_none (c := 47) (l := s) (fun b hm => (chr_free b (hb b hm)).2)
    simp [splitU, this]
  · rcases s with _ | ⟨x, r⟩
    · simp at h1
    · have hg : gB (x :: r) 0 = x := by simp [gB]
      rw [hg]
      by_cases hx : x = 46
      · exfalso
        have : labOk [] = true := h3 [] (by unfold splitC; rw [if_pos hx]; exact List.mem_cons_self)
        revert this; decide
      · refine ⟨?_, hx⟩
        intro e
        rcases hs : splitC 46 r with _ | ⟨h, t⟩
        · exact absurd hs (splitC_ne 46 r)
        · have : labOk (x :: h) = true := h3 (x :: h) (by unfold splitC; rw [if_neg hx, hs]; exact List.mem_cons_self)
          unfold labOk labBad at this
          rw [e] at this
          simp [gB] at this
end Go.Proofs.YtlalpnnnnmcejaaGreatDoor
/- Plain: what is put in escapes is read again; the document's Target by pieces; its bucket's test, byte by byte. -/
set_option linter.unusedVariables false
set_option linter.unusedSimpArgs false
namespace Go.Proofs.YtlalpnnnnmcejaaGreatDoor
open Go Go.RowKit
theorem esc_facts : ∀ b : UInt8, digV (gB capsL (b.toNat / 16)) = b.toNat / 16 ∧ digV (gB capsL (b.toNat % 16)) = b.toNat % 16 ∧ UInt8.ofNat (b.toNat / 16 * 16 + b.toNat % 16) = b ∧ (∀ sl, freeL sl b = true → b ≠ 37) := by
  have h : ∀ n : Fin 256, digV (gB capsL (n.val.toUInt8.toNat / 16)) = n.val.toUInt8.toNat / 16 ∧ digV (gB capsL (n.val.toUInt8.toNat % 16)) = n.val.toUInt8.toNat % 16 ∧ UInt8.ofNat (n.val.toUInt8.toNat / 16 * 16 + n.val.toUInt8.toNat % 16) = n.val.toUInt8 ∧ (∀ sl, freeL sl n.val.toUInt8 = true → n.val.toUInt8 ≠ 37) := by decide +kernel
  intro b
  have := h ⟨b.toNat, b.toNat_lt⟩
  simp only [UInt8.ofNat_toNat, Nat.toUInt8_eq] at this
  exact this
theorem dec_enc (sl : Bool) (l r : List UInt8) : decR (encL sl l ++ r) = (l ++ (decR r).1, (decR r).2.map (· + (encL sl l).length)) := by
  induction l with
  | nil => rcases h : decR r with ⟨a, _ | b⟩ <;> simp [encL, h]
  | cons b l ih =>
    have e : encL sl (b :: l) = encB sl b ++ encL sl l := by simp [encL]
    obtain ⟨f1, f2, f3, f4⟩ := esc_facts b
    rw [e, List.append_assoc]
    by_cases hf : freeL sl b = true
    · have eb : encB sl b = [b] := by unfold encB; rw [if_pos hf]
      rw [eb, List.singleton_append, decR_plain _ _ (f4 sl hf), ih]
      rcases (decR r).2 with _ | k <;> simp <;> omega
    · have eb : encB sl b = [37, gB capsL (b.toNat / 16), gB capsL (b.toNat % 16)] := by unfold encB escL; rw [if_neg hf]
      have hb := b.toNat_lt
      rw [eb]
      show decR (37 :: gB capsL (b.toNat / 16) :: gB capsL (b.toNat % 16) :: (encL sl l ++ r)) = _
      rw [decR_esc, f1, f2, if_neg (by omega), f3, ih]
      rcases (decR r).2 with _ | k <;> simp <;> omega
theorem dec_enc' (sl : Bool) (l : List UInt8) : decR (encL sl l) = (l, none) := by
  have := dec_enc sl l []
  simpa [decR] using this
/-- The document's walk over a query's pieces. -/
def rPieces : List (List UInt8) → Nat → List PairD → Option Nat × List PairD
  | [], _, acc => (none, acc)
  | p :: r, at_, acc =>
    if p = [] then rPieces r (at_ + 1) acc
    else match (decR (cutB 61 p).1).2 with
      | some k => (some (at_ + k), [])
      | none =>
        if (cutB 61 p).2.2 then
          match (decR (cutB 61 p).2.1).2 with
          | some k => (some (at_ + (cutB 61 p).1.length + 1 + k), [])
          | none => rPieces r (at_ + (p.length + 1)) (acc ++ [((decR (cutB 61 p).1).1, (decR (cutB 61 p).2.1).1)])
        else rPieces r (at_ + (p.length + 1)) (acc ++ [((decR (cutB 61 p).1).1, [])])
theorem stepT_keep (st : TSt) (p : List UInt8) (h : 0 ≤ st.bad) : (stepT st p).bad = st.bad := by
  have hb : ∀ t a, badT t a st.bad = st.bad := fun t a => by
    unfold badT; rcases (decR t).2 with _ | k
    · rfl
    · simp only; rw [if_neg (by omega)]
  unfold stepT
  split
  · rfl
  · split
    · simp only [hb]
    · simp only [hb]
theorem fold_keep (ls : List (List UInt8)) : ∀ st : TSt, 0 ≤ st.bad → (ls.foldl stepT st).bad = st.bad := by
  induction ls with
  | nil => intro st _; rfl
  | cons p r ih => intro st h; rw [List.foldl_cons, ih _ (by rw [stepT_keep st p h]; exact h), stepT_keep st p h]
theorem pieces_fold (ls : List (List UInt8)) : ∀ (at_ : Nat) (acc : List PairD),
    match rPieces ls at_ acc with
    | (some b, _) => (ls.foldl stepT ⟨acc, (at_ : Int), -1⟩).bad = (b : Int)
    | (none, ps) => (ls.foldl stepT ⟨acc, (at_ : Int), -1⟩).bad = -1 ∧ (ls.foldl stepT ⟨acc, (at_ : Int), -1⟩).ps = ps := by
  induction ls with
  | nil => intro at_ acc; simp [rPieces]
  | cons p r ih =>
    intro at_ acc
    unfold rPieces
    rw [List.foldl_cons]
    by_cases hp : p = []
    · rw [if_pos hp]
      have e : stepT ⟨acc, (at_ : Int), -1⟩ p = ⟨acc, ((at_ + 1 : Nat) : Int), -1⟩ := by unfold stepT; rw [if_pos hp]; simp
      rw [e]; exact ih _ _
    · rw [if_neg hp]
      have hc := cutB_len 61 p
      rcases hn : (decR (cutB 61 p).1).2 with _ | k
      · have hon : (decOut (cutB 61 p).1).1 = (decR (cutB 61 p).1).1 := by unfold decOut; rw [hn]
        have hbn : ∀ a, badT (cutB 61 p).1 a (-1) = -1 := fun a => by unfold badT; rw [hn]
        rcases hf : (cutB 61 p).2.2 with _ | _
        · have e : stepT ⟨acc, (at_ : Int), -1⟩ p = ⟨acc ++ [((decR (cutB 61 p).1).1, [])], ((at_ + (p.length + 1) : Nat) : Int), -1⟩ := by
            have hlen : (cutB 61 p).1.length = p.length := by rw [(hc.2 hf).1]
            unfold stepT; rw [if_neg hp, hf]; simp only [Bool.false_eq_true, if_false, hon, hbn, hlen, TSt.mk.injEq, and_true, true_and]; omega
          rw [e]; simp only [Bool.false_eq_true, if_false]; exact ih _ _
        · simp only [if_true]
          have hl := hc.1 hf
          rcases hv : (decR (cutB 61 p).2.1).2 with _ | k2
          · have hov : (decOut (cutB 61 p).2.1).1 = (decR (cutB 61 p).2.1).1 := by unfold decOut; rw [hv]
            have hbv : ∀ a, badT (cutB 61 p).2.1 a (-1) = -1 := fun a => by unfold badT; rw [hv]
            have e : stepT ⟨acc, (at_ : Int), -1⟩ p = ⟨acc ++ [((decR (cutB 61 p).1).1, (decR (cutB 61 p).2.1).1)], ((at_ + (p.length + 1) : Nat) : Int), -1⟩ := by
              unfold stepT; rw [if_neg hp, hf]; simp only [if_true, hon, hov, hbn, hbv, TSt.mk.injEq, and_true, true_and]; omega
            rw [e]; exact ih _ _
          · have hb2 : (stepT ⟨acc, (at_ : Int), -1⟩ p).bad = ((at_ + (cutB 61 p).1.length + 1 + k2 : Nat) : Int) := by
              unfold stepT; rw [if_neg hp, hf]; simp only [if_true, hbn]
              unfold badT; rw [hv]; simp only; rw [if_pos (by omega)]; omega
            simp only
            rw [fold_keep r _ (by rw [hb2]; omega), hb2]
      · have hb1 : (stepT ⟨acc, (at_ : Int), -1⟩ p).bad = ((at_ + k : Nat) : Int) := by
          have h1 : badT (cutB 61 p).1 (at_ : Int) (-1) = ((at_ + k : Nat) : Int) := by unfold badT; rw [hn]; simp only; rw [if_pos (by omega)]; omega
          have h2 : ∀ t a, badT t a ((at_ + k : Nat) : Int) = ((at_ + k : Nat) : Int) := fun t a => by
            unfold badT; rcases (decR t).2 with _ | j
            · rfl
            · simp only; rw [if_neg (by omega)]
          unfold stepT; rw [if_neg hp]
          split
          · simp only [h1, h2]
          · simp only [h1]
        simp only
        rw [fold_keep r _ (by rw [hb1]; omega), hb1]
end Go.Proofs.YtlalpnnnnmcejaaGreatDoor
/- Plain: the document's test of a bucket's name, byte by byte, is the labels'. -/
set_option linter.unusedVariables false
set_option linter.unusedSimpArgs false
namespace Go.Proofs.YtlalpnnnnmcejaaGreatDoor
open Go Go.RowKit
def okCond (pv b : UInt8) : Bool := (chrOk b || b == 46) && !(b == 46 && (pv == 46 || pv == 45)) && !(b == 45 && pv == 46)
def chk : UInt8 → List UInt8 → Bool
  | pv, [] => !(pv == 45 || pv == 46)
  | pv, b :: r => okCond pv b && chk b r
theorem gB_last (u : List UInt8) (b : UInt8) : gB (u ++ [b]) ((u ++ [b]).length - 1) = b := by simp [gB]
theorem labOk_snoc (u : List UInt8) (b : UInt8) (h0 : gB (u ++ [b]) 0 ≠ 45) (ha : (u ++ [b]).all chrOk = true) : labOk (u ++ [b]) = !(b == 45) := by
  unfold labOk labBad
  rw [ha, gB_last]
  have h1 : (u ++ [b]).isEmpty = false := by simp
  have h2 : (gB (u ++ [b]) 0 == 45) = false := by simpa using h0
  rw [h1, h2]; simp
theorem labOk_bad (u h : List UInt8) (b : UInt8) (hb : chrOk b = false) : labOk (u ++ b :: h) = false := by
  unfold labOk; simp [hb]
theorem gB_app0 (u : List UInt8) (b : UInt8) (h : List UInt8) : gB ((u ++ [b]) ++ h) 0 = gB (u ++ [b]) 0 := by
  rcases u with _ | ⟨x, u⟩ <;> simp [gB]
theorem labels_chk (l : List UInt8) : (splitC 46 l).all labOk = chk 46 l ∧
    ∀ (u : List UInt8) (c : UInt8), gB (u ++ [c]) 0 ≠ 45 → (u ++ [c]).all chrOk = true → ∀ h t, splitC 46 l = h :: t → (labOk ((u ++ [c]) ++ h) && t.all labOk) = chk c l := by
  induction l with
  | nil =>
    refine ⟨by decide, fun u c h0 ha h t e => ?_⟩
    have hc : c ≠ 46 := by
      intro e; subst e
      simp only [List.all_append, Bool.and_eq_true] at ha
      have := ha.2; revert this; decide
    simp only [splitC, List.cons.injEq] at e
    obtain ⟨rfl, rfl⟩ := e
    rw [List.append_nil, labOk_snoc u c h0 ha]
    simp [chk, hc]
  | cons b r ih =>
    obtain ⟨ih1, ih2⟩ := ih
    by_cases hb : b = 46
    · subst hb
      have hs : splitC 46 (46 :: r) = [] :: splitC 46 r := by rw [splitC, if_pos rfl]
      rw [hs]
      refine ⟨?_, fun u c h0 ha h t e => ?_⟩
      · simp [labOk, labBad, chk, okCond]
      · simp only [List.cons.injEq] at e
        obtain ⟨rfl, rfl⟩ := e
        have hc : c ≠ 46 := by
          intro e; subst e
          simp only [List.all_append, Bool.and_eq_true] at ha
          have := ha.2; revert this; decide
        rw [List.append_nil, labOk_snoc u c h0 ha, ih1]
        have h46 : chrOk 46 = false := by decide
        rcases hc5 : (c == 45) with _ | _ <;> simp [chk, okCond, hc, hc5, h46]
    · rcases hr : splitC 46 r with _ | ⟨h1, t1⟩
      · exact absurd hr (splitC_ne 46 r)
      · have hs : splitC 46 (b :: r) = (b :: h1) :: t1 := by rw [splitC, if_neg hb, hr]
        rw [hs]
        refine ⟨?_, fun u c h0 ha h t e => ?_⟩
        · rw [List.all_cons]
          rcases hok : chrOk b with _ | _
          · rw [show b :: h1 = [] ++ b :: h1 from rfl, labOk_bad [] h1 b hok]; simp [chk, okCond, hok, hb]
          · by_cases h45 : b = 45
            · subst h45; simp [labOk, labBad, chk, okCond, gB]
            · have := ih2 [] b (by simpa [gB] using h45) (by simp [hok]) h1 t1 hr
              simp only [List.nil_append, List.singleton_append] at this
              rw [this]; simp [chk, okCond, hok, hb, h45]
        · simp only [List.cons.injEq] at e
          obtain ⟨rfl, rfl⟩ := e
          have hc : c ≠ 46 := by
            intro e; subst e
            simp only [List.all_append, Bool.and_eq_true] at ha
            have := ha.2; revert this; decide
          rcases hok : chrOk b with _ | _
          · rw [labOk_bad (u ++ [c]) h1 b hok]; simp [chk, okCond, hok, hb]
          · have := ih2 (u ++ [c]) b (by rw [gB_app0]; exact h0) (by rw [List.all_append, ha]; simp [hok]) h1 t1 hr
            rw [List.append_assoc, List.singleton_append] at this
            rw [this]; simp [chk, okCond, hok, hb, hc]
end Go.Proofs.YtlalpnnnnmcejaaGreatDoor
