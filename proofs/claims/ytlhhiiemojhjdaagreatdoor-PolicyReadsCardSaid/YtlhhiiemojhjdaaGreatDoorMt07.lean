/- Texts of this proof, laid into one: KbN. -/
import Derived.Test.YtlhhiiemojhjdaaGreatDoorMt06
set_option linter.unusedVariables false
set_option linter.unusedSimpArgs false
namespace Go.Proofs.YtlhhiiemojhjdaaGreatDoor
open Go Go.RowKit
def PairI (jb rb ab b d : Nat) (acc : List (Txt × JsonD)) (w : World) : Prop := LstB w jb 7 (acc.map (·.1)) (acc.map (·.2)) ∧ BoxJ w rb ab b (d + 1) ∧ b < jb ∧ rb < jb ∧ ab + 1 < jb
theorem PairI.gx {jb rb ab b d : Nat} {acc : List (Txt × JsonD)} {w w' : World} (h : PairI jb rb ab b d acc w) (hg : GX [b] w w') : PairI jb rb ab b d acc w' :=
  ⟨h.1.gx hg h.2.2.1, h.2.1.gx hg, h.2.2⟩
theorem info_str : (Tryz.prog.info? 9).map (fun i => (i.zero, i.size, i.bytes)) = some (some (.string ⟨#[]⟩), 1, 16) := by kernel_rfl
structure NameSt (jb rb ab b d : Nat) (s : Txt) (w0 : World) (ns : List Txt) (ks : List JsonD) (r : Txt) (W : World) : Prop where
  l : LstB W jb 7 ns ks
  gx : GX [b] w0 W
  rd : ∃ q, q ≤ s.length ∧ s.drop q = r ∧ RdB W b s q
  bx : BoxJ W rb ab b (d + 1)
theorem name_fin {W4 w5 w0 : World} {jb rb ab b d : Nat} {s r : Txt} {ns : List Txt} {ks : List JsonD} {vn vk : Value} {cells : List Value} {t : Txt} {o : Obj} {v5 : Value} (hN : NameSt jb rb ab b d s w0 ns ks r W4) (hL : LstV W4 jb 7 ns ks vn vk cells) (hj0 : w0.heap.size ≤ jb) (hb : b < jb) (hrj : rb < jb) (haj : ab + 1 < jb)
    (hgr : (W4.alloc o).grownBy w5 vn.ownBlock) (hob : v5.ownBlock = vn.ownBlock ∨ v5.ownBlock = some (W4.alloc o).heap.size) (hrow : w5.ownsRow (jb + 1) 9 1 v5 (ns.length + 1) (ns.map strV ++ [strV t])) :
    w5.cell? ⟨jb, 2, none⟩ = some vn ∧ w5.frozen? ⟨jb, 2, none⟩ = false ∧ LstB (w5.setCell ⟨jb, 2, none⟩ v5) jb 7 (ns ++ [t]) ks ∧ GX [b] w0 (w5.setCell ⟨jb, 2, none⟩ v5) ∧ (∃ q, q ≤ s.length ∧ s.drop q = r ∧ RdB (w5.setCell ⟨jb, 2, none⟩ v5) b s q) ∧ BoxJ (w5.setCell ⟨jb, 2, none⟩ v5) rb ab b (d + 1) := by
  have hlt := hL.lt
  have hsa : (W4.alloc o).heap.size = W4.heap.size + 1 := by simp
  have hvb : ∀ k, vn.ownBlock = some k → jb + 1 ≤ k ∧ k < W4.heap.size := fun k hk => ownsRow_base hL.nrow hk
  have hfr : ∀ k, k < W4.heap.size → vn.ownBlock ≠ some k → w5.heap[k]? = W4.heap[k]? := fun k h1 h2 => by
    rw [hgr.block k (by omega) (fun e => h2 e.symm)]; exact Below.block ((Q.refl W4).alloc o) k h1
  have hj5 : w5.heap[jb]? = some (.cells (jsonC 7 [] vn vk).toArray 46 (0, 0)) := (hfr jb hlt (fun e => by have := (hvb jb e).1; omega)).trans hL.blk
  have hsz : W4.heap.size + 1 ≤ w5.heap.size := by have := hgr.size; omega
  have hlow : ∀ k, k < jb → k < W4.heap.size → (w5.setCell ⟨jb, 2, none⟩ v5).heap[k]? = W4.heap[k]? := fun k h1 h2 => by
    rw [heap_setCell_other w5 ⟨jb, 2, none⟩ k v5 (by simp; omega)]; exact hfr k h2 (fun e => by have := (hvb k e).1; omega)
  have hg5 : ∀ k, v5.ownBlock = some k → jb + 1 ≤ k := fun k e => (ownsRow_base hrow e).1
  refine ⟨by rw [cell_of_row _ _ _ _ _ _ hj5]; rfl, frozen_of_row w5 jb 2 _ _ hj5, ⟨v5, vk, cells, hL.name (by simp; omega) ?_ ?_ ?_ ?_⟩, ?_, ?_, ?_⟩
  · rw [heap_setCell_any w5 jb 2 _ _ _ v5 hj5]; rfl
  · exact ownsRow_frame hrow (fun k e _ => heap_setCell_other w5 ⟨jb, 2, none⟩ k v5 (by have := hg5 k e; simp; omega))
  · intro k h1 h2 h3
    rw [heap_setCell_other w5 ⟨jb, 2, none⟩ k v5 (by simpa using h2)]; exact hfr k h1 h3
  · rcases hob with h | h
    · exact .inl h
    · exact .inr ⟨_, by omega, h⟩
  · refine ((hN.gx.reader ((Q.refl W4).alloc o)).sub (GX.gbo hgr) (fun k hk => ?_)).sub ((GX.refl [jb] w5).set (by simp) 2 v5) (fun k hk => ?_)
    · have := (hvb k (by simpa using hk)).1; right; omega
    · simp at hk; right; omega
  · obtain ⟨q, h1, h2, h3⟩ := hN.rd
    exact ⟨q, h1, h2, (hlow b hb h3.lt).trans h3⟩
  · exact hN.bx.low hrj haj hlow
set_option maxRecDepth 100000 in
theorem pair_any (d : Nat) (hd : d < 20) (wB : World) (b : Nat) (s : Txt) (IH : ValAll d wB b s) (hl : s.length ≤ 1000000000) (w0 : World) (jb rb ab : Nat) (hj0 : w0.heap.size ≤ jb) (acc : List (Txt × JsonD)) (q : Nat) (W : World) (hal : acc.length ≤ q) (hI : PairI jb rb ab b d acc W)
    (hR : RdB W b s q) (hB : RB wB b W) (hG : GX [b] w0 W) (hq : q ≤ s.length) :
    Calls Tryz.prog 62 #[.pointer (some ⟨rb, 0, none⟩), .pointer (some ⟨jb, 0, none⟩), .pointer (some ⟨ab, 0, none⟩)] W (OneP b s w0 (fun v => PairI jb rb ab b d (acc ++ [v])) (pairR (valR d) (s.drop q))) := by
  obtain ⟨N0, hN⟩ : ∃ N, pairR (valR d) (s.drop q) = N := ⟨_, rfl⟩
  have hal2 : acc.length ≤ 1000000000 := by omega
  rw [hN]
  have HN : Hid (N0 = (textR (s.drop q)).bind fun name r => (takeR 58 (skipJ r)).bind fun _ u => (valR d (skipJ u)).bind fun v t => .ok (name, v) t) := Lib.hid hN.symm
  have HIH := Lib.hid IH
  have HI := Lib.hid hI
  have HRB := Lib.hid hB
  have HG := Lib.hid hG
  have HBl := Lib.hid (fun q W (h : RdB W b s q) (hq : q ≤ s.length) => blanks_any b s q W h hq hl)
  have HTk : Hid (∀ q W, RdB W b s q → q ≤ s.length → Calls Tryz.prog 64 #[.pointer (some ⟨b, 0, none⟩), .int .u8 58] W (UnitP b s (takeR 58 (s.drop q)) W)) := Lib.hid (fun q W h hq => by
    have ht := take_any b s q 58 W h hq (by omega)
    rw [show (((58 : UInt8).toNat : Nat) : Int) = 58 from rfl] at ht
    exact ht)
  have HWs := Lib.hid (fun q (hq : q ≤ s.length) => ws_at (s := s) (p := q) hq)
  have hbx := hI.2.1
  have hbj := hI.2.2.1
  have hrj := hI.2.2.2.1
  have haj := hI.2.2.2.2
  have cr := hbx.r
  have htx := text_any b s q wB W hR hB hq hl
  obtain ⟨T, hT⟩ : ∃ T, textR (s.drop q) = T := ⟨_, rfl⟩
  rw [hT] at htx HN
  have HTx := Lib.hid htx
  have HR := Lib.hid hR
  clear hN IH hI hB hG hbx htx hT hR
  go_enter Tryz.func62, Tryz.ntmps62
  go_wp2_with fail
  refine HTx.out.mono ?_
  intro e w1 hU
  have HU := Lib.hid hU
  clear hU HTx
  rcases T with ⟨t, r⟩ | ⟨c, n⟩
  rotate_left
  · obtain ⟨⟨bf, rfl, hf⟩, hg⟩ := HU.out
    have HX : Hid (OneP b s w0 (fun v => PairI jb rb ab b d (acc ++ [v])) N0 (.panicked [{ v := .iface 32 (.pointer (some ⟨bf, 0, none⟩)), recovered := false }]) w1) := Lib.hid (by
      rw [HN.out]
      exact ⟨⟨bf, rfl, hf⟩, HG.out.trans hg⟩)
    clear hf hg
    go_wp2_with fail
    exact ⟨rfl, HX.out⟩
  obtain ⟨rfl, ⟨q1, m1, m2, m3⟩, m4⟩ := HU.out
  have HR1 := Lib.hid m3
  have HM1 := Lib.hid m2
  have HG1 := Lib.hid (HG.out.trans m4)
  have HI1 := Lib.hid (HI.out.gx m4)
  have HRB1 := Lib.hid (HRB.out.gx m4)
  clear m2 m3 m4 HU cr
  have cr := HI1.out.2.1.r
  have HB1 := Lib.hid (HBl.out q1 w1 HR1.out m1)
  obtain ⟨k1, k2, k3⟩ := HWs.out q1 m1
  obtain ⟨q2, hq2⟩ : ∃ q2, wsAt s q1 = q2 := ⟨_, rfl⟩
  rw [hq2] at k1 k2 k3 HB1
  have HK1 := Lib.hid k1
  clear k1 hq2
  go_wp2_with fail
  refine HB1.out.mono ?_
  rintro e w2 ⟨rfl, hR2, hG2⟩
  have HR2 := Lib.hid hR2
  have HG2 := Lib.hid (HG1.out.trans hG2)
  have HI2 := Lib.hid (HI1.out.gx hG2)
  have HRB2 := Lib.hid (HRB1.out.gx hG2)
  clear hR2 hG2 cr HB1
  have cr := HI2.out.2.1.r
  have htk := HTk.out q2 w2 HR2.out k3
  obtain ⟨T, hT⟩ : ∃ T, takeR 58 (s.drop q2) = T := ⟨_, rfl⟩
  have HN2 : Hid (N0 = T.bind fun _ u => (valR d (skipJ u)).bind fun v t' => .ok (t, v) t') := Lib.hid (by rw [HN.out, ← hT, HK1.out, HM1.out]; rfl)
  rw [hT] at htk
  have HTk2 := Lib.hid htk
  clear htk hT
  go_wp2_with fail
  refine HTk2.out.mono ?_
  intro e w3 hU
  have HU := Lib.hid hU
  clear hU HTk2
  rcases T with ⟨y, r3⟩ | ⟨c, n⟩
  rotate_left
  · obtain ⟨⟨bf, rfl, hf⟩, hg⟩ := HU.out
    have HX : Hid (OneP b s w0 (fun v => PairI jb rb ab b d (acc ++ [v])) N0 (.panicked [{ v := .iface 32 (.pointer (some ⟨bf, 0, none⟩)), recovered := false }]) w3) := Lib.hid (by
      rw [HN2.out]
      exact ⟨⟨bf, rfl, hf⟩, HG2.out.trans hg⟩)
    clear hf hg
    go_wp2_with fail
    exact ⟨rfl, HX.out⟩
  obtain ⟨rfl, ⟨q3, m1b, m2, m3⟩, m4⟩ := HU.out
  have HR3 := Lib.hid m3
  have HM3 := Lib.hid m2
  have HG3 := Lib.hid (HG2.out.trans m4)
  have HI3 := Lib.hid (HI2.out.gx m4)
  have HRB3 := Lib.hid (HRB2.out.gx m4)
  clear m2 m3 m4 HU cr
  have cr := HI3.out.2.1.r
  have HB3 := Lib.hid (HBl.out q3 w3 HR3.out m1b)
  obtain ⟨k1, k2b, k3b⟩ := HWs.out q3 m1b
  obtain ⟨q4, hq4⟩ : ∃ q4, wsAt s q3 = q4 := ⟨_, rfl⟩
  rw [hq4] at k1 k2b k3b HB3
  have HK3 := Lib.hid k1
  clear k1 hq4
  go_wp2_with fail
  refine HB3.out.mono ?_
  rintro e w4 ⟨rfl, hR4, hG4⟩
  have HN4 : Hid (N0 = (valR d (s.drop q4)).bind fun v t' => .ok (t, v) t') := Lib.hid (by rw [HN2.out, HK3.out, HM3.out]; rfl)
  have HR4 := Lib.hid hR4
  have HG4 := Lib.hid (HG3.out.trans hG4)
  have HI4 := Lib.hid (HI3.out.gx hG4)
  have HRB4 := Lib.hid (HRB3.out.gx hG4)
  clear hR4 hG4 cr HB3 HI3 HI2 HI1 HI HR3 HR2 HR1 HR HG3 HG2 HG1 HG HRB3 HRB2 HRB1 HRB HN HN2 HM1 HM3 HK1 HK3 k2 k2b
  obtain ⟨⟨vn, vk, cells, hL⟩, hBx, _, _, _⟩ := HI4.out
  have IH := HIH.out
  clear HI4
  obtain ⟨V, hV⟩ : ∃ V, valR d (s.drop q4) = V := ⟨_, rfl⟩
  have HNV : Hid (N0 = V.bind fun v t' => .ok (t, v) t') := Lib.hid (by rw [HN4.out, hV])
  obtain ⟨D, hD⟩ : ∃ D : Int, 20 - ((d + 1 : Nat) : Int) = D := ⟨_, rfl⟩
  obtain ⟨ns, hns⟩ : ∃ ns, acc.map (·.1) = ns := ⟨_, rfl⟩
  obtain ⟨ks, hks⟩ : ∃ ks, acc.map (·.2) = ks := ⟨_, rfl⟩
  have hkl : ks.length = acc.length := by rw [← hks, List.length_map]
  have hnl : ns.length = acc.length := by rw [← hns, List.length_map]
  rw [hns, hks] at hL
  have HNS := Lib.hid hns
  have HKS := Lib.hid hks
  have HL := Lib.hid hL
  have HBx := Lib.hid hBx
  have HIH : Hid (∀ W', Q w4 W' → Calls Tryz.prog 45 #[.pointer (some ⟨b, 0, none⟩), .int .i64 (D + 1)] W' (ValP b s W' V)) := Lib.hid (fun W' h => by
    have := IH q4 W' (HR4.out.q h) (HRB4.out.gx (GX.q h)) k3b
    rw [hV] at this
    rw [show (D + 1) = 20 - (d : Int) by omega]
    exact this)
  have c3 : w4.cell? ⟨jb, 3, none⟩ = some vk := by rw [cell_of_row _ _ _ _ _ _ hL.blk]; rfl
  have hS0 : SIt jb rb ab vk b D w4 := ⟨c3, hBx.r, by rw [← hD]; exact hBx.a⟩
  have HS0 := Lib.hid hS0
  obtain ⟨A, cp, hvk, hn1, hn2, hn3⟩ := row_cells hL.krow hL.krow.1
  have hd0 : (0 : Int) ≤ D := by omega
  have hd1 : D ≤ 20 := by omega
  subst hvk
  have hn4 : ks.length ≤ 1000000000 := by omega
  have hn5 : ns.length ≤ 1000000000 := by omega
  have k3 : ∀ m : SWA (SIt jb rb ab (.slice A ks.length cp) b D), m.val.cell? ⟨jb, 3, none⟩ = some (.slice A ks.length cp) := fun m => m.property.1
  have kr : ∀ m : SWA (SIt jb rb ab (.slice A ks.length cp) b D), m.val.cell? ⟨rb, 0, none⟩ = some (.pointer (some ⟨b, 0, none⟩)) := fun m => m.property.2.1
  have ka : ∀ m : SWA (SIt jb rb ab (.slice A ks.length cp) b D), m.val.cell? ⟨ab, 0, none⟩ = some (.int .i64 D) := fun m => m.property.2.2
  clear hL hBx hV IH c3 hS0 hn3 hD hns hks hkl hnl HN4
  go_upto_region 4 with (fail)
  refine wp_app_S (SIt jb rb ab (.slice A ks.length cp) b D) [0, 1, 2, 3, 4, 6] 5 7 [8] [9, 11] 10 12 (by kernel_rfl) (by kernel_rfl) (fun c a d v w h => by cases d <;> exact h) HS0.out ?_
  simp only [List.map_cons, List.map_nil, Array.getD_eq_getD_getElem?, List.getElem?_toArray, List.getElem?_cons_succ, List.getElem?_cons_zero, Option.getD_some]
  haveI hne : Nonempty (SWA (SIt jb rb ab (.slice A ks.length cp) b D)) := ⟨⟨_, HS0.out⟩⟩
  (repeat (go_big_quiet_step (fail)))
  refine wpQuiet_nil ?_
  clear k3 kr ka hne
  have HWd : Hid (Q w4 w4.drew) := Lib.hid (Q.refl w4).drew
  have HWs : Hid (w4.drew.heap.size = w4.heap.size) := Lib.hid rfl
  obtain ⟨Wd, hWd⟩ : ∃ Wd, w4.drew = Wd := ⟨_, rfl⟩
  rw [hWd] at HWd HWs
  rw [hWd]
  clear hWd
  have HBad : Hid (∀ c n w1 e, ValP b s Wd (.bad c n) e w1 → OneP b s w0 (fun v => PairI jb rb ab b d (acc ++ [v])) (.bad c n) e w1) := Lib.hid (fun c n w1 e h => ⟨h.1, (HG4.out.reader HWd.out).trans h.2⟩)
  have HBad2 : Hid (∀ c n w1 e, ValP b s (Wd.alloc (.cells zeroC.toArray 46)) (.bad c n) e w1 → OneP b s w0 (fun v => PairI jb rb ab b d (acc ++ [v])) (.bad c n) e w1) := Lib.hid (fun c n w1 e h => ⟨h.1, (HG4.out.reader (HWd.out.alloc _)).trans h.2⟩)
  have HSt : Hid (∀ W2, GX [b] w4 W2 → ∃ m : SWA (SIt jb rb ab (.slice A ks.length cp) b D), W2 = m.val) := Lib.hid (fun W2 hg => ⟨⟨W2, HS0.out.gx hg (by simp; omega) (by simp; have := HBx.out.br; omega) (by simp; have := HBx.out.ba; omega)⟩, rfl⟩)
  have HSt3 : Hid (∀ W2 w3 T, GX [b] w4 W2 → GX T W2 w3 → (∀ k ∈ T, jb + 1 ≤ k) → ∃ m : SWA (SIt jb rb ab (.slice A ks.length cp) b D), w3 = m.val) := Lib.hid (fun W2 w3 T hg h3 hT => ⟨⟨w3, (HS0.out.gx hg (by simp; omega) (by simp; have := HBx.out.br; omega) (by simp; have := HBx.out.ba; omega)).gx h3 (fun h => by have := hT _ h; omega) (fun h => by have := hT _ h; omega) (fun h => by have := hT _ h; omega)⟩, rfl⟩)
  refine ⟨?o1, ?o2⟩
  case' o1 =>
    unfold wpListK
    intro K hK
    go_wp2_with fail
    refine (HIH.out _ HWd.out).mono ?_
    intro e w1 hU
    have HU := Lib.hid hU
    clear hU HIH
    rcases V with ⟨v, r⟩ | ⟨c, n⟩
    rotate_left
    · have HX : Hid (OneP b s w0 (fun v => PairI jb rb ab b d (acc ++ [v])) N0 e w1) := Lib.hid (by rw [HNV.out]; exact HBad.out c n w1 e HU.out)
      obtain ⟨⟨bf, rfl, hf⟩, hg⟩ := HU.out
      clear hf hg
      go_wp2_with fail
      exact ⟨rfl, HX.out⟩
    obtain ⟨⟨un, uk, rfl, hj⟩, hr, hg⟩ := HU.out
    rw [HWs.out] at hj
    have hgw := (GX.q HWd.out).trans hg
    have HK := Lib.hid (kidSt_one hgw hj hr)
    have HSw := Lib.hid (HSt.out w1 hgw)
    clear hj hr hg HU hgw
    go_wp2_with fail
    refine hK.out _ _ HSw.out ?_
    clear hK HSw
    unfold wpListK
    intro K hK
    go_wp2_with fail
    refine hK.out _ _ (HSt.out _ HK.out.gx) ?_
    clear hK
    obtain ⟨W2, hW2⟩ : ∃ W2, w1.alloc (.cells zeroC.toArray 46) = W2 := ⟨_, rfl⟩
    have hW2' : w1.alloc (.cells #[.int .i64 0, .string ⟨#[]⟩, .slice none 0 0, .slice none 0 0] 46) = W2 := hW2
    obtain ⟨N, hN⟩ : ∃ N, w1.heap.size = N := ⟨_, rfl⟩
    rw [hW2, hN] at HK
    rw [hW2', hN]
    clear hW2 hW2' hN HBad HBad2
    clear w1
  case' o2 =>
    unfold wpListK
    intro K hK
    go_wp2_with fail
    refine hK.out _ _ (HSt.out _ (GX.q (HWd.out.alloc _))) ?_
    clear hK
    unfold wpListK
    intro K hK
    go_wp2_with fail
    refine (HIH.out _ (HWd.out.alloc _)).mono ?_
    intro e W2 hU
    have HU := Lib.hid hU
    clear hU HIH
    rcases V with ⟨v, r⟩ | ⟨c, n⟩
    rotate_left
    · have HX : Hid (OneP b s w0 (fun v => PairI jb rb ab b d (acc ++ [v])) N0 e W2) := Lib.hid (by rw [HNV.out]; exact HBad2.out c n W2 e HU.out)
      obtain ⟨⟨bf, rfl, hf⟩, hg⟩ := HU.out
      clear hf hg
      go_wp2_with fail
      exact ⟨rfl, HX.out⟩
    obtain ⟨⟨un, uk, rfl, hj⟩, hr, hg⟩ := HU.out
    have HK := Lib.hid (kidSt_two (W := Wd) (by rw [HWs.out]; exact HR4.out.lt) hg hj hr)
    clear hj hr hg HU
    have HK : Hid (KidSt w4 b s v r un uk Wd.heap.size W2) := Lib.hid ⟨(GX.q HWd.out).trans HK.out.gx, by have := HK.out.jo; rw [HWs.out] at this; exact this, HK.out.rd, HK.out.z⟩
    go_wp2_with fail
    refine hK.out _ _ (HSt.out _ HK.out.gx) ?_
    clear hK
    obtain ⟨N, hN⟩ : ∃ N, Wd.heap.size = N := ⟨_, rfl⟩
    rw [hN] at HK
    rw [hN]
    clear hN HBad HBad2
  all_goals
    unfold wpListK wpAppE
    simp only [List.map_cons, List.map_nil, Array.getD_eq_getD_getElem?, List.getElem?_toArray, List.getElem?_cons_succ, List.getElem?_cons_zero, Option.getD_some]
    unfold wpListK
    intro K hK
    obtain ⟨ti, hi, hz0, hz1, hz2⟩ := info_parts info_json
    have HL2 := Lib.hid (HL.out.gx HK.out.gx hbj)
    have hlt2 := HL2.out.lt
    have ha1 : ∀ j u, zeroC[j]? = some u → W2.cell? ((⟨N, 0, none⟩ : Addr).add j) = some u := by
      intro j u hj
      rw [add_off, Nat.zero_add, cell_of_row _ _ _ _ _ _ HK.out.z]
      simpa using hj
    have ha2 : ∀ u ∈ zeroC, u.oneCell' = true := by intro u hu; simp [zeroC] at hu; rcases hu with rfl | rfl | rfl <;> rfl
    refine wpList_append_own_at (w := W2) rfl (.tmp 13) (.tmp 19) 44 rfl (jb + 1) 46 ti _ 4 72 Tryz.underlying44 hi hz0 hz1 hz2 rfl (by decide) (.slice A ks.length cp) ks.length cells rfl HL2.out.krow ⟨N, 0, none⟩ 1 1 zeroC rfl rfl ha1 ha2 (by unfold maxLen; omega) (by omega) (by omega) ?_
    clear ha1 ha2
    intro v' w3 hrow hgrow _ hob
    have hkb : ∀ k, (Value.slice A ks.length cp).ownBlock = some k → jb + 1 ≤ k ∧ k < W2.heap.size := fun k hk => ownsRow_base HL2.out.krow hk
    have HKB := Lib.hid hkb
    have hs3 := HSt3.out W2 w3 _ HK.out.gx (GX.gbo hgrow) (fun k hk => (hkb k (by simpa using hk)).1)
    have HGr := Lib.hid hgrow
    have HOb := Lib.hid hob
    have HJ3 : Hid (w3.heap[jb]? = some (.cells (jsonC 7 [] vn (.slice A ks.length cp)).toArray 46 (0, 0))) := Lib.hid (by
      rw [hgrow.block jb HL2.out.lt (fun e => by have := (hkb jb e.symm).1; omega)]; exact HL2.out.blk)
    clear hkb hgrow hob
    show K _ _
    refine hK.out _ _ hs3 ?_
    clear hK hs3
    unfold wpListK
    simp only [Act.put, List.setIfInBounds_toArray, List.set_cons_succ, List.set_cons_zero]
    obtain ⟨g, cap, cur, rfl, hgb, hgh, hgn, hgm, hgc, hgt⟩ : ∃ g cap cur, v' = .slice (some ⟨g, 0, none⟩) (ks.length + 1) cap ∧ jb + 1 ≤ g ∧ w3.heap[g]? = some (.cells cur 46 (0, 0)) ∧ ks.length + 1 ≤ cap ∧ cap ≤ maxLen ∧ cur.size = cap * 4 ∧ cur.toList.take ((ks.length + 1) * 4) = cells ++ zeroC := by
      rcases hrow.2 with ⟨_, h0⟩ | h
      · omega
      · exact h
    have HFin : Hid (∀ W4, Two w3 W4 g jb 46 ks.length cap (cells ++ cellJ v un uk) ((jsonC 7 [] vn (.slice A ks.length cp)).set 3 (.slice (some ⟨g, 0, none⟩) (ks.length + 1) cap)) → NameSt jb rb ab b d s w0 ns (ks ++ [v]) r W4) := Lib.hid (fun W4 hT => by
      obtain ⟨f1, f2, _, f4, f5⟩ := kid_fin (w0 := w0) HL.out HK.out hbj HG4.out hj0 HGr.out HOb.out hgb hgn hgm hT
      have hbx := HBx.out.gx HK.out.gx
      exact ⟨f1, f2, f4, hbx.low hrj haj f5⟩)
    have hcl : cells.length = ks.length * 4 := HL.out.krow.1
    have HA := Lib.hid (fun u => two_a hgh hgb hgn hgm hgc hgt hcl (jsonC_len v.kind v.text un uk) HJ3.out (by omega) 3 u)
    have HB2 := Lib.hid (fun u => two_b hgh hgb hgn hgm hgc hgt hcl (jsonC_len v.kind v.text un uk) HJ3.out (by omega) 3 u)
    have HTh : Hid (w3.there g (ks.length * 4) (cellJ v un uk).toArray.size) := Lib.hid (there_row hgh (by show _ + (jsonC _ _ un uk).toArray.size ≤ _; simp [jsonC]; omega))
    have HOne := Lib.hid (cellJ_one (j := v) (jo_form HK.out.jo).1 (jo_form HK.out.jo).2)
    have HIn : Hid ((Tryz.prog.info? 46).map (·.size) = some (cellJ v un uk).toArray.size) := Lib.hid (by rw [hi]; show some ti.size = _; rw [hz1]; rfl)
    have hd2 : decide (ks.length < ks.length + 1) = true := by simp
    have cjb : w3.cell? ⟨jb, 3, none⟩ = some (.slice A ks.length cp) := by rw [cell_of_row _ _ _ _ _ _ HJ3.out]; rfl
    have fjb := frozen_of_row w3 jb 3 _ _ HJ3.out
    have HNe : Hid (g ≠ jb) := Lib.hid (by omega)
    have HGh := Lib.hid hgh
    clear hgh hgt hgc hcl hrow hi hz0 hz1 hz2
    (repeat (go_big_quiet_step (fail)))
    refine wpQuiet_nil ?_
    clear hd2
    have HJ4 : Hid ((w3.setCells g (ks.length * 4) (cellJ v un uk)).heap[jb]? = some (.cells (jsonC 7 [] vn (.slice A ks.length cp)).toArray 46 (0, 0))) := Lib.hid (by
      rw [(setCells_gb g (cellJ v un uk) (ks.length * 4) w3).block jb (lt_of_heap HJ3.out) (by simpa using Ne.symm HNe.out)]; exact HJ3.out)
    have HTh2 : Hid ((w3.setCell ⟨jb, 3, none⟩ (.slice (some ⟨g, 0, none⟩) (ks.length + 1) cap)).there g (ks.length * 4) (cellJ v un uk).toArray.size) := Lib.hid (fun j hj => by
      have := HTh.out j hj
      refine ⟨?_, ?_⟩
      · have h1 := this.1
        unfold World.cell? at h1 ⊢
        rw [heap_setCell_other w3 ⟨jb, 3, none⟩ g _ (by simpa using HNe.out)]; exact h1
      · rw [← this.2]; unfold World.frozen?; rw [heap_setCell_other _ ⟨jb, 3, none⟩ g _ (by simpa using HNe.out)])
    refine ⟨?_, ?_⟩
    · unfold wpListK
      intro K hK
      refine wpList_store_mid rfl 46 (.tmp 21) (.tmp 17) rfl g (ks.length * 4) (cellJ v un uk).toArray rfl rfl HTh.out HIn.out HOne.out ?_
      show K _ _
      refine hK.out _ _ trivial ?_
      clear hK cjb fjb
      unfold wpListK
      intro K hK
      simp only [Act.put]
      have cjb : (w3.setCells g (ks.length * 4) (cellJ v un uk)).cell? ⟨jb, 3, none⟩ = some (.slice A ks.length cp) := by rw [cell_of_row _ _ _ _ _ _ HJ4.out]; rfl
      have fjb := frozen_of_row _ jb 3 _ _ HJ4.out
      go_wp2_with fail
      refine hK.out _ _ trivial ?_
      clear hK cjb fjb
      unfold wpListK
      have HNm : Hid (NameSt jb rb ab b d s w0 ns (ks ++ [v]) r ((w3.setCells g (ks.length * 4) (cellJ v un uk)).setCell ⟨jb, 3, none⟩ (.slice (some ⟨g, 0, none⟩) (ks.length + 1) cap))) := Lib.hid (HFin.out _ (HA.out (.slice (some ⟨g, 0, none⟩) (ks.length + 1) cap)))
      obtain ⟨W4, hW4⟩ : ∃ W4, (w3.setCells g (ks.length * 4) (cellJ v un uk)).setCell ⟨jb, 3, none⟩ (.slice (some ⟨g, 0, none⟩) (ks.length + 1) cap) = W4 := ⟨_, rfl⟩
      rw [hW4] at HNm
      rw [hW4]
      clear hW4 HFin HA HB2 HTh HTh2 HOne HIn HNe HGh HJ3 HJ4 HGr HOb HKB HL2 HK HSt HSt3
      obtain ⟨⟨vn4, vk4, cells4, hL4⟩, hG5, hR5, hBx5⟩ := HNm.out
      have HL4 := Lib.hid hL4
      have HG5 := Lib.hid hG5
      have HR5 := Lib.hid hR5
      have HBx5 := Lib.hid hBx5
      have c2 : W4.cell? ⟨jb, 2, none⟩ = some vn4 := by rw [cell_of_row _ _ _ _ _ _ hL4.blk]; rfl
      obtain ⟨A4, cp4, hvn, hm1, hm2, hm3⟩ := row_cells hL4.nrow (by simp)
      subst hvn
      obtain ⟨si, hsi, hsz0, hsz1, hsz2⟩ := info_parts info_str
      clear hL4 hG5 hR5 hBx5 hm3
      go_upto_region 5 with (fail)
      iterate 13 go_step
      have ha1 : ∀ j u, [strV t][j]? = some u → (W4.alloc (.cells #[strV t] 9)).cell? ((⟨W4.heap.size, 0, none⟩ : Addr).add j) = some u := by
        intro j u hj
        rw [add_off, Nat.zero_add, cell_of_row _ _ _ _ _ _ (heap_alloc_new W4 _)]
        simpa using hj
      refine wpList_append_own_at (w := W4.alloc (.cells #[strV t] 9)) rfl (.tmp 24) (.tmp 26) 39 rfl (jb + 1) 9 si _ 1 16 Tryz.underlying39 hsi hsz0 hsz1 hsz2 rfl (by decide) (.slice A4 ns.length cp4) ns.length (ns.map strV) rfl (HL4.out.nrow.alloc _) ⟨W4.heap.size, 0, none⟩ 1 1 [strV t] rfl rfl ha1 (by intro u hu; simp at hu; subst hu; rfl) (by unfold maxLen; omega) (by omega) (by have := HL4.out.lt; simp; omega) ?_
      clear ha1
      intro vn5 w5 hrow5 hgr5 _ hob5
      have hnf := name_fin HNm.out HL4.out hj0 hbj hrj haj hgr5 hob5 hrow5
      obtain ⟨g5, cap5, rfl⟩ : ∃ g5 cap5, vn5 = .slice (some ⟨g5, 0, none⟩) (ns.length + 1) cap5 := by
        rcases hrow5.2 with ⟨_, h0⟩ | ⟨g5, cap5, _, h, _⟩
        · omega
        · exact ⟨g5, cap5, h⟩
      obtain ⟨c2, f2, n1, n2, n3, n4⟩ := hnf
      have HX : Hid (OneP b s w0 (fun v => PairI jb rb ab b d (acc ++ [v])) N0 (.returned (.tuple #[])) (w5.setCell ⟨jb, 2, none⟩ (.slice (some ⟨g5, 0, none⟩) (ns.length + 1) cap5))) := Lib.hid (by
        rw [HNV.out]
        refine ⟨rfl, n3, n2, ?_, n4, hbj, hrj, haj⟩
        rw [List.map_append, List.map_append, HNS.out, HKS.out]
        exact n1)
      clear hrow5 hgr5 hob5 n1 n2 n3 n4
      simp only [Act.put]
      go_wp2_with fail
      go_end0
      exact HX.out
    · unfold wpListK
      intro K hK
      go_wp2_with fail
      refine hK.out _ _ trivial ?_
      clear hK cjb fjb
      unfold wpListK
      intro K hK
      refine wpList_store_mid rfl 46 (.tmp 21) (.tmp 17) rfl g (ks.length * 4) (cellJ v un uk).toArray rfl rfl HTh2.out HIn.out HOne.out ?_
      show K _ _
      refine hK.out _ _ trivial ?_
      clear hK
      unfold wpListK
      simp only [Act.put]
      have HNm : Hid (NameSt jb rb ab b d s w0 ns (ks ++ [v]) r ((w3.setCell ⟨jb, 3, none⟩ (.slice (some ⟨g, 0, none⟩) (ks.length + 1) cap)).setCells g (ks.length * 4) (cellJ v un uk))) := Lib.hid (HFin.out _ (HB2.out (.slice (some ⟨g, 0, none⟩) (ks.length + 1) cap)))
      obtain ⟨W4, hW4⟩ : ∃ W4, (w3.setCell ⟨jb, 3, none⟩ (.slice (some ⟨g, 0, none⟩) (ks.length + 1) cap)).setCells g (ks.length * 4) (cellJ v un uk) = W4 := ⟨_, rfl⟩
      rw [hW4] at HNm
      rw [hW4]
      clear hW4 HFin HA HB2 HTh HTh2 HOne HIn HNe HGh HJ3 HJ4 HGr HOb HKB HL2 HK HSt HSt3
      obtain ⟨⟨vn4, vk4, cells4, hL4⟩, hG5, hR5, hBx5⟩ := HNm.out
      have HL4 := Lib.hid hL4
      have HG5 := Lib.hid hG5
      have HR5 := Lib.hid hR5
      have HBx5 := Lib.hid hBx5
      have c2 : W4.cell? ⟨jb, 2, none⟩ = some vn4 := by rw [cell_of_row _ _ _ _ _ _ hL4.blk]; rfl
      obtain ⟨A4, cp4, hvn, hm1, hm2, hm3⟩ := row_cells hL4.nrow (by simp)
      subst hvn
      obtain ⟨si, hsi, hsz0, hsz1, hsz2⟩ := info_parts info_str
      clear hL4 hG5 hR5 hBx5 hm3
      go_upto_region 5 with (fail)
      iterate 13 go_step
      have ha1 : ∀ j u, [strV t][j]? = some u → (W4.alloc (.cells #[strV t] 9)).cell? ((⟨W4.heap.size, 0, none⟩ : Addr).add j) = some u := by
        intro j u hj
        rw [add_off, Nat.zero_add, cell_of_row _ _ _ _ _ _ (heap_alloc_new W4 _)]
        simpa using hj
      refine wpList_append_own_at (w := W4.alloc (.cells #[strV t] 9)) rfl (.tmp 24) (.tmp 26) 39 rfl (jb + 1) 9 si _ 1 16 Tryz.underlying39 hsi hsz0 hsz1 hsz2 rfl (by decide) (.slice A4 ns.length cp4) ns.length (ns.map strV) rfl (HL4.out.nrow.alloc _) ⟨W4.heap.size, 0, none⟩ 1 1 [strV t] rfl rfl ha1 (by intro u hu; simp at hu; subst hu; rfl) (by unfold maxLen; omega) (by omega) (by have := HL4.out.lt; simp; omega) ?_
      clear ha1
      intro vn5 w5 hrow5 hgr5 _ hob5
      have hnf := name_fin HNm.out HL4.out hj0 hbj hrj haj hgr5 hob5 hrow5
      obtain ⟨g5, cap5, rfl⟩ : ∃ g5 cap5, vn5 = .slice (some ⟨g5, 0, none⟩) (ns.length + 1) cap5 := by
        rcases hrow5.2 with ⟨_, h0⟩ | ⟨g5, cap5, _, h, _⟩
        · omega
        · exact ⟨g5, cap5, h⟩
      obtain ⟨c2, f2, n1, n2, n3, n4⟩ := hnf
      have HX : Hid (OneP b s w0 (fun v => PairI jb rb ab b d (acc ++ [v])) N0 (.returned (.tuple #[])) (w5.setCell ⟨jb, 2, none⟩ (.slice (some ⟨g5, 0, none⟩) (ns.length + 1) cap5))) := Lib.hid (by
        rw [HNV.out]
        refine ⟨rfl, n3, n2, ?_, n4, hbj, hrj, haj⟩
        rw [List.map_append, List.map_append, HNS.out, HKS.out]
        exact n1)
      clear hrow5 hgr5 hob5 n1 n2 n3 n4
      simp only [Act.put]
      go_wp2_with fail
      go_end0
      exact HX.out
end Go.Proofs.YtlhhiiemojhjdaaGreatDoor
