/- Texts of this proof, laid into one: SgF, SgG, SgH, SgK. -/
import Derived.Test.YtmmoenbmgcplkaaGreatDoorMn11
import Derived.Shelf.SlicesQ.IndexFunc
import Derived.Laws.Cover1
/- wire.Field: IndexFunc and ContainsFunc of pairs by a name. (The layings: XPaA's, turned to pairs.) -/
set_option linter.unusedVariables false
set_option linter.unusedSimpArgs false
namespace Go.Proofs.YtmmoenbmgcplkaaGreatDoor
open Go Go.RowKit
def lPi_ren : Go.Shelf.Ren := ⟨fun | 6 => 120 | 8 => 121 | n => n, fun | 0 => 0 | 3 => 3 | 4 => 4 | 22 => 22 | 23 => 37 | 25 => 159 | n => n, fun | n => n⟩
theorem lPi6 : Go.Proofs.SlLaysH0.n6 Tryz.prog lPi_ren := {
  mixed := by kernel_rfl
  f6 := ⟨Tryz.f120.name, by decide, Tryz.func120.trans (congrArg some (by kernel_rfl))⟩
  t0 := Tryz.underlying0
  a0 := Tryz.isAgg0
  z0 := Tryz.sizeOf0
  v0 := Tryz.zeroValue0
  t3 := Tryz.underlying3
  a3 := Tryz.isAgg3
  z3 := Tryz.sizeOf3
  v3 := Tryz.zeroValue3
  t4 := Tryz.underlying4
  a4 := Tryz.isAgg4
  z4 := Tryz.sizeOf4
  v4 := Tryz.zeroValue4
  t22 := Tryz.underlying22
  a22 := Tryz.isAgg22
  z22 := Tryz.sizeOf22
  v22 := Tryz.zeroValue22
  t25 := Tryz.underlying159
  a25 := Tryz.isAgg159
  z25 := Tryz.sizeOf159
  v25 := Tryz.zeroValue159 }
theorem lPi8 : Go.Proofs.SlLaysH0.n8 Tryz.prog lPi_ren := {
  mixed := by kernel_rfl
  f6 := ⟨Tryz.f120.name, by decide, Tryz.func120.trans (congrArg some (by kernel_rfl))⟩
  f8 := ⟨Tryz.f121.name, by decide, Tryz.func121.trans (congrArg some (by kernel_rfl))⟩
  t0 := Tryz.underlying0
  a0 := Tryz.isAgg0
  z0 := Tryz.sizeOf0
  v0 := Tryz.zeroValue0
  t3 := Tryz.underlying3
  a3 := Tryz.isAgg3
  z3 := Tryz.sizeOf3
  v3 := Tryz.zeroValue3
  t4 := Tryz.underlying4
  a4 := Tryz.isAgg4
  z4 := Tryz.sizeOf4
  v4 := Tryz.zeroValue4
  t22 := Tryz.underlying22
  a22 := Tryz.isAgg22
  z22 := Tryz.sizeOf22
  v22 := Tryz.zeroValue22
  t25 := Tryz.underlying159
  a25 := Tryz.isAgg159
  z25 := Tryz.sizeOf159
  v25 := Tryz.zeroValue159 }
def isN (t : List UInt8) (p : PairD) : Bool := smL p.1 == smL t
def OkU (ps : List PairD) : Prop := ∀ p ∈ ps, p.1.length ≤ 100000000
abbrev PairK := { p : PairD // p.1.length ≤ 100000000 }
instance : Inhabited PairK := ⟨⟨([], []), by decide⟩⟩
def okU (ps : List PairD) (h : OkU ps) : List PairK := ps.attach.map fun x => ⟨x.1, h x.1 x.2⟩
theorem okU_map (ps : List PairD) (h : OkU ps) : (okU ps h).map (·.1) = ps := by
  unfold okU; rw [List.map_map]
  show ps.attach.map (fun x => x.1) = ps
  exact List.attach_map_subtype_val ps
theorem okU_len (ps : List PairD) (h : OkU ps) : (okU ps h).length = ps.length := by unfold okU; simp
theorem okU_at (ps : List PairD) (h : OkU ps) (j : Nat) (hj : j < ps.length) : ((okU ps h)[j]!).1 = ps[j] := by
  have h1 : j < (okU ps h).length := by rw [okU_len]; exact hj
  rw [getElem!_pos (okU ps h) j h1]
  have e := List.getElem_of_eq (okU_map ps h) (i := j) (by rw [List.length_map]; exact h1)
  rw [← e]; simp
/-- A text in a block. -/
def SB (w : World) (b : Nat) (t : List UInt8) : Prop := w.heap[b]? = some (.cells #[.string ⟨t.toArray⟩] 9 (0, 0))
theorem SB.q {w w' : World} {b : Nat} {t : List UInt8} (h : SB w b t) (hq : Q w w') : SB w' b t := hq.block h
theorem SB.c {w : World} {b : Nat} {t : List UInt8} (h : SB w b t) : w.cell? ⟨b, 0, none⟩ = some (.string ⟨t.toArray⟩) := by rw [cell_of_row _ _ _ _ _ _ h]; rfl
set_option maxRecDepth 100000 in
set_option maxHeartbeats 1000000 in
theorem isN_any (b : Nat) (t : List UInt8) (x : PairK) (w : World) (hb : SB w b t) (ht : t.length ≤ 100000000) : Calls Tryz.prog 118 #[.agg (pairL x.1).toArray, .pointer (some ⟨b, 0, none⟩)] w fun e w' => e = .returned (.bool (isN t x.1)) ∧ Q w w' := by
  obtain ⟨⟨n, v⟩, hx⟩ := x
  simp only at hx
  have HB := Lib.hid hb
  have HS := Lib.hid (fun (l : List UInt8) (hl : l.length ≤ 100000000) W => small_any l W hl)
  have HR : Hid (isN t (n, v) = (smL n == smL t)) := Lib.hid rfl
  show Calls Tryz.prog 118 #[.agg #[.string ⟨n.toArray⟩, .string ⟨v.toArray⟩], .pointer (some ⟨b, 0, none⟩)] w fun e w' => e = .returned (.bool (isN t (n, v))) ∧ Q w w'
  have hn : n.length ≤ 100000000 := hx
  clear hb hx
  go_enter Tryz.func118, Tryz.ntmps118
  go_upto_region 1 with (fail)
  obtain ⟨W, hW⟩ : ∃ W, w.alloc (.cells #[.string ⟨n.toArray⟩, .string ⟨v.toArray⟩] 37) = W := ⟨_, rfl⟩
  have hpb : PB W w.heap.size (n, v) := by rw [← hW]; exact heap_alloc_new w _
  have hqW : Q w W := by rw [← hW]; exact (Q.refl w).alloc _
  obtain ⟨N, hN⟩ : ∃ N, w.heap.size = N := ⟨_, rfl⟩
  rw [hN] at hpb ⊢
  rw [hW]
  have c0 := hpb.c0
  have c1 := (HB.out.q hqW).c
  simp only at c0
  have d0 : ∀ m : QW W, m.val.cell? ⟨N, 0, none⟩ = some (.string ⟨n.toArray⟩) := fun m => m.cell c0
  have d1 : ∀ m : QW W, m.val.cell? ⟨b, 0, none⟩ = some (.string ⟨t.toArray⟩) := fun m => m.cell c1
  clear hW hN hpb c0 c1
  refine wp_region_q (by kernel_rfl) (by kernel_rfl) ?_
  (repeat (go_big_quiet_step (first | (go_at_call 119; exact calls_q (HS.out _ (by assumption) _)))))
  refine wpQuiet_nil ?_
  rintro wx ⟨mx, hmx⟩
  have hqx : Q W wx := by rw [hmx]; exact mx.le
  have HQX := Lib.hid (hqW.trans hqx)
  clear hmx mx hqx hqW d0 d1
  go_wp2_with fail
  go_ret
  rw [HR.out]
  exact ⟨rfl, HQX.out⟩
theorem enters_isN : ∀ args w, (callFunc 118 args).run Tryz.prog w = .ok (.enter 118 args) w := enters_of Tryz.func118 (by kernel_rfl) rfl
theorem pred_isN (b : Nat) (t : List UInt8) (w : World) (hb : SB w b t) (ht : t.length ≤ 100000000) : PredBelow Tryz.prog 118 #[.pointer (some ⟨b, 0, none⟩)] (fun x : PairK => .agg (pairL x.1).toArray) (fun x => isN t x.1) w := fun W x hb2 =>
  (isN_any b t x W (hb.q hb2) ht).mono fun e w' ⟨he, hq⟩ => ⟨he, hb2.trans (Below.mono hq hb2.size)⟩
theorem index_u0 (A : Option Addr) (cap : Nat) (f : Value) (w : World) : Calls Tryz.prog 120 #[.slice A 0 cap, f] w fun e w' => e = .returned (.int .i64 (-1)) ∧ Q w w' := by
  go_enter Tryz.func120, Tryz.ntmps120
  go_wp2_with fail
  go_loopw [8] (fun i wr => i = .int .i64 0 ∧ Q w wr) (fun i _ => (intOf i).toNat)
  case atStart => exact ⟨rfl, Q.refl _⟩
  case round =>
    obtain ⟨rfl, hq⟩ := hrel
    have HQ := Lib.hid hq
    clear hq
    go_wp2_with fail
    go_ret
    exact ⟨rfl, HQ.out⟩
theorem contains_u0 (A : Option Addr) (cap : Nat) (f : Value) (w : World) : Calls Tryz.prog 121 #[.slice A 0 cap, f] w fun e w' => e = .returned (.bool false) ∧ Q w w' := by
  go_enter Tryz.func121, Tryz.ntmps121
  go_wp2_with fail
  refine (index_u0 A cap f _).mono ?_
  rintro e w1 ⟨rfl, hq⟩
  go_wp2_with fail
  go_ret
  exact ⟨rfl, hq⟩
def idxN (t : List UInt8) (ps : List PairD) : Int := match ps.findIdx? (isN t) with | none => -1 | some k => (k : Int)
theorem idxN_by (t : List UInt8) (ps : List PairD) (h : OkU ps) : Lib.idxBy (fun _ y => isN t y.1) (okU ps h) default = idxN t ps := by
  have key : ∀ (l : List PairK) (i : Nat), Lib.idxByFrom (fun _ (y : PairK) => isN t y.1) default l i = match (l.map (·.1)).findIdx? (isN t) with | none => -1 | some k => ((i + k : Nat) : Int) := by
    intro l
    induction l with
    | nil => intro i; simp [Lib.idxByFrom]
    | cons a r ih =>
      intro i
      unfold Lib.idxByFrom
      rw [List.map_cons, List.findIdx?_cons]
      by_cases ha : isN t a.1 = true
      · rw [if_pos ha]; simp [ha]
      · rw [if_neg ha, ih]
        have ha' : isN t a.1 = false := by simpa using ha
        rw [ha']
        generalize List.findIdx? (isN t) (List.map (fun x => x.1) r) = fi
        rcases fi with _ | k
        · rfl
        · show ((i + 1 + k : Nat) : Int) = ((i + (k + 1) : Nat) : Int)
          congr 1; omega
  have := key (okU ps h) 0
  unfold Lib.idxBy idxN
  rw [this, okU_map]
  rcases ps.findIdx? (isN t) with _ | k <;> simp
theorem index_any (A : Option Addr) (n cap b : Nat) (ps : List PairD) (t : List UInt8) (w : World) (h : PairsAt w A n ps) (hok : OkU ps) (hb : SB w b t) (ht : t.length ≤ 100000000) (hn : n ≤ 9223372036854775807) :
    Calls Tryz.prog 120 #[.slice A n cap, .func (.func 118) #[] #[.pointer (some ⟨b, 0, none⟩)]] w fun e w' => e = .returned (.int .i64 (idxN t ps)) ∧ Q w w' := by
  by_cases h0 : n = 0
  · subst h0
    have : ps = [] := List.eq_nil_of_length_eq_zero h.1.symm
    subst this
    exact index_u0 A cap _ w
  · obtain ⟨g, off, rfl, hg, hc⟩ := h.2 (by omega)
    have hl := okU_len ps hok
    have := AnyQ.slices_IndexFunc lPi6 2 Tryz.isAgg37 Tryz.sizeOf37 (fun x : PairK => pairL x.1) (fun _ => rfl) (fun x => isN t x.1) 118 #[.pointer (some ⟨b, 0, none⟩)] enters_isN g off n cap (okU ps hok) w (pred_isN b t w hb ht)
      (by rw [hl, ← h.1]; exact Nat.le_refl _) hn hg (fun j hj i v hv => hc j (by rw [← hl]; exact hj) i v (by rw [okU_at ps hok j (by rw [← hl]; exact hj)] at hv; exact hv))
    refine this.mono ?_
    rintro e w' ⟨rfl, hb⟩
    rw [List.take_of_length_le (by rw [hl, h.1]; exact Nat.le_refl _), idxN_by]
    exact ⟨rfl, hb⟩
theorem contains_any (A : Option Addr) (n cap b : Nat) (ps : List PairD) (t : List UInt8) (w : World) (h : PairsAt w A n ps) (hok : OkU ps) (hb : SB w b t) (ht : t.length ≤ 100000000) (hn : n ≤ 9223372036854775807) :
    Calls Tryz.prog 121 #[.slice A n cap, .func (.func 118) #[] #[.pointer (some ⟨b, 0, none⟩)]] w fun e w' => e = .returned (.bool (ps.any (isN t))) ∧ Q w w' := by
  by_cases h0 : n = 0
  · subst h0
    have : ps = [] := List.eq_nil_of_length_eq_zero h.1.symm
    subst this
    exact contains_u0 A cap _ w
  · obtain ⟨g, off, rfl, hg, hc⟩ := h.2 (by omega)
    have hl := okU_len ps hok
    have := AnyQ.slices_ContainsFunc lPi8 2 Tryz.isAgg37 Tryz.sizeOf37 (fun x : PairK => pairL x.1) (fun _ => rfl) (fun x => isN t x.1) 118 #[.pointer (some ⟨b, 0, none⟩)] enters_isN g off n cap (okU ps hok) w (pred_isN b t w hb ht)
      (by rw [hl, ← h.1]; exact Nat.le_refl _) hn hg (fun j hj i v hv => hc j (by rw [← hl]; exact hj) i v (by rw [okU_at ps hok j (by rw [← hl]; exact hj)] at hv; exact hv))
    refine this.mono ?_
    rintro e w' ⟨rfl, hb⟩
    rw [List.take_of_length_le (by rw [hl, h.1]; exact Nat.le_refl _)]
    refine ⟨?_, hb⟩
    have e : (okU ps hok).any (fun x => isN t x.1) = ((okU ps hok).map (·.1)).any (isN t) := by rw [List.any_map]; rfl
    rw [e, okU_map]
/-- The value of the only field of a name. -/
def fieldL (ps : List PairD) (t : List UInt8) : Option (List UInt8) := match ps.findIdx? (isN t) with | none => none | some k => if (ps.drop (k + 1)).any (isN t) then none else some (gU ps k).2
theorem PairsAt.dropU {w : World} {g off n : Nat} {ps : List PairD} (h : PairsAt w (some ⟨g, off, none⟩) n ps) (k : Nat) (hk : k ≤ n) : PairsAt w (some ⟨g, off + k * 2, none⟩) (n - k) (ps.drop k) := h.drop k hk
set_option maxRecDepth 100000 in
set_option maxHeartbeats 1000000 in
theorem Field_any (A : Option Addr) (n cap : Nat) (ps : List PairD) (t : List UInt8) (w : World) (h : PairsAt w A n ps) (hok : OkU ps) (ht : t.length ≤ 100000000) (hc : n ≤ cap) (hcap : cap ≤ 9223372036854775807) :
    Calls Tryz.prog 71 #[.slice A n cap, .string ⟨t.toArray⟩] w fun e w' => e = .returned (.tuple #[.string ⟨((fieldL ps t).getD []).toArray⟩, .bool (fieldL ps t).isSome]) ∧ Q w w' := by
  have HNL := Lib.hid h.1
  obtain ⟨W, hW⟩ : ∃ W, w.alloc (.cells #[.string ⟨t.toArray⟩] 9) = W := ⟨_, rfl⟩
  have hsb : SB W w.heap.size t := by rw [← hW]; exact heap_alloc_new w _
  have hqW : Q w W := by rw [← hW]; exact (Q.refl w).alloc _
  obtain ⟨N, hN⟩ : ∃ N, w.heap.size = N := ⟨_, rfl⟩
  rw [hN] at hsb
  have HSB := Lib.hid hsb
  have HQW := Lib.hid hqW
  have HP := Lib.hid h
  have HI : Hid (∀ W', Q W W' → Calls Tryz.prog 120 #[.slice A n cap, .func (.func 118) #[] #[.pointer (some ⟨N, 0, none⟩)]] W' fun e w' => e = .returned (.int .i64 (idxN t ps)) ∧ Q W' w') :=
    Lib.hid (fun W' hq => index_any A n cap N ps t W' ((h.q hqW).q hq) hok (hsb.q hq) ht (by omega))
  clear hsb hqW
  rcases hf : ps.findIdx? (isN t) with _ | k
  · have hi : idxN t ps = -1 := by unfold idxN; rw [hf]
    have HR : Hid (fieldL ps t = none) := Lib.hid (by unfold fieldL; rw [hf])
    rw [hi] at HI
    clear hf hi h
    go_enter Tryz.func71, Tryz.ntmps71
    go_upto_region 2 with (fail)
    clear hN hW
    go_wp2_with fail
    refine (HI.out _ (Q.refl _)).mono ?_
    rintro e w2 ⟨rfl, hq2⟩
    have HQ2 := Lib.hid (HQW.out.trans hq2)
    clear hq2
    go_wp2_with fail
    go_ret2
    rw [HR.out]
    exact ⟨rfl, HQ2.out⟩
  · have hk : k < n := by
      rw [HNL.out]
      exact (List.findIdx?_eq_some_iff_getElem.1 hf).1
    have hi : idxN t ps = (k : Int) := by unfold idxN; rw [hf]
    rw [hi] at HI
    obtain ⟨g, off, rfl, _, _⟩ := h.at hk
    have hk1 : (k : Int) + 1 ≤ (cap : Int) := by omega
    have hk2 : (k : Int) + 1 ≤ (n : Int) := by omega
    by_cases hck : cap = k + 1
    · subst hck
      have hnk : n - (k + 1) = 0 := by omega
      have hde : ps.drop (k + 1) = [] := List.drop_eq_nil_of_le (by rw [← HNL.out]; omega)
      have HFL : Hid (fieldL ps t = some (gU ps k).2) := Lib.hid (by unfold fieldL; rw [hf]; simp only; rw [hde]; rfl)
      have HCF := Lib.hid (fun (W' : World) => contains_u0 (some ⟨g, off, none⟩) 0 (.func (.func 118) #[] #[.pointer (some ⟨N, 0, none⟩)]) W')
      clear hf hi h hde
      go_enter Tryz.func71, Tryz.ntmps71
      go_upto_region 2 with (fail)
      clear hN hW
      go_wp2_with fail
      refine (HI.out _ (Q.refl _)).mono ?_
      rintro e w2 ⟨rfl, hq2⟩
      have HQ2 := Lib.hid hq2
      clear hq2
      go_wp2_with fail
      refine (HCF.out _).mono ?_
      rintro e w3 ⟨rfl, hq3⟩
      have HQ3 := Lib.hid (HQW.out.trans (HQ2.out.trans hq3))
      clear hq3
      obtain ⟨g2, off2, h2, e0, e1⟩ := (HP.out.q HQ3.out).at hk
      cases h2
      clear e0
      go_wp2_with fail
      go_ret2
      rw [HFL.out]
      exact ⟨rfl, HQ3.out⟩
    have hokd : OkU (ps.drop (k + 1)) := fun p hp => hok p (List.mem_of_mem_drop hp)
    have HCF : Hid (∀ W', Q W W' → Calls Tryz.prog 121 #[.slice (some ⟨g, off + (k + 1) * 2, none⟩) (n - (k + 1)) (cap - (k + 1)), .func (.func 118) #[] #[.pointer (some ⟨N, 0, none⟩)]] W' fun e w' => e = .returned (.bool ((ps.drop (k + 1)).any (isN t))) ∧ Q W' w') :=
      Lib.hid (fun W' hq => contains_any _ _ _ N (ps.drop (k + 1)) t W' (((HP.out.q HQW.out).q hq).drop (k + 1) hk) hokd (HSB.out.q hq) ht (by omega))
    have HFL : Hid (fieldL ps t = if (ps.drop (k + 1)).any (isN t) then none else some (gU ps k).2) := Lib.hid (by unfold fieldL; rw [hf])
    generalize (ps.drop (k + 1)).any (isN t) = B at HCF HFL
    clear hf hi h hokd
    go_enter Tryz.func71, Tryz.ntmps71
    go_upto_region 2 with (fail)
    clear hN hW
    go_wp2_with fail
    refine (HI.out _ (Q.refl _)).mono ?_
    rintro e w2 ⟨rfl, hq2⟩
    have HQ2 := Lib.hid hq2
    clear hq2
    go_wp2_with fail
    refine (HCF.out _ HQ2.out).mono ?_
    rintro e w3 ⟨rfl, hq3⟩
    have HQ3 := Lib.hid (HQW.out.trans (HQ2.out.trans hq3))
    clear hq3
    rcases B with _ | _
    · rw [if_neg (by decide)] at HFL
      obtain ⟨g2, off2, h2, e0, e1⟩ := (HP.out.q HQ3.out).at hk
      cases h2
      clear e0
      go_wp2_with fail
      go_ret2
      rw [HFL.out]
      exact ⟨rfl, HQ3.out⟩
    · rw [if_pos rfl] at HFL
      go_wp2_with fail
      go_ret2
      rw [HFL.out]
      exact ⟨rfl, HQ3.out⟩
end Go.Proofs.YtmmoenbmgcplkaaGreatDoor
/- sign: small (names that rise), inner, blanks squeezed. -/
set_option linter.unusedVariables false
set_option linter.unusedSimpArgs false
namespace Go.Proofs.YtmmoenbmgcplkaaGreatDoor
open Go Go.RowKit
def setW : List UInt8 := [97, 98, 99, 100, 101, 102, 103, 104, 105, 106, 107, 108, 109, 110, 111, 112, 113, 114, 115, 116, 117, 118, 119, 120, 121, 122, 48, 49, 50, 51, 52, 53, 54, 55, 56, 57, 45, 95]
def chrW (b : UInt8) : Bool := (97 ≤ b.toNat && b.toNat ≤ 122) || (48 ≤ b.toNat && b.toNat ≤ 57) || b == 45 || b == 95
theorem set_chr (b : UInt8) : setW.contains b = chrW b := by
  have h : ∀ n : Fin 256, setW.contains n.val.toUInt8 = chrW n.val.toUInt8 := by decide +kernel
  have := h ⟨b.toNat, b.toNat_lt⟩
  simpa using this
theorem trim_w (l : List UInt8) : (Lib.trimS l setW == []) = l.all chrW := by
  rw [Bool.eq_iff_iff, beq_iff_eq, trimS_nil, List.all_eq_true]
  constructor
  · intro h x hx; rw [← set_chr]; exact h x hx
  · intro h x hx; rw [set_chr]; exact h x hx
theorem trimw_any (l : List UInt8) (w : World) (hl : l.length ≤ 9223372036854775807) : Calls Tryz.prog 109 #[.string ⟨l.toArray⟩, .string ⟨#[97, 98, 99, 100, 101, 102, 103, 104, 105, 106, 107, 108, 109, 110, 111, 112, 113, 114, 115, 116, 117, 118, 119, 120, 121, 122, 48, 49, 50, 51, 52, 53, 54, 55, 56, 57, 45, 95]⟩] w fun e w' => e = .returned (.string ⟨(Lib.trimS l setW).toArray⟩) ∧ Q w w' :=
  Any.strings_Trim_laid Tryz.lays160 (by kernel_rfl) ⟨l.toArray⟩ ⟨#[97, 98, 99, 100, 101, 102, 103, 104, 105, 106, 107, 108, 109, 110, 111, 112, 113, 114, 115, 116, 117, 118, 119, 120, 121, 122, 48, 49, 50, 51, 52, 53, 54, 55, 56, 57, 45, 95]⟩ w hl (by decide) (ascii_of_all (by decide))
def okName (l : List UInt8) : Bool := !l.isEmpty && l.all chrW
/-- Is the k-th name one, and above the one ahead of it? -/
def nameAt (ls : List (List UInt8)) (k : Nat) : Prop := okName (gL ls k) = true ∧ (0 < k → gL ls (k - 1) < gL ls k)
def namesOk (ls : List (List UInt8)) : Prop := ls ≠ [] ∧ ∀ k, k < ls.length → nameAt ls k
theorem gL_get (ls : List (List UInt8)) (k : Nat) (h : k < ls.length) : gL ls k = ls[k] := by simp [gL, List.getD, h]
/-- Texts in a slice. -/
def NmAt (w : World) (A : Option Addr) (n : Nat) (ls : List (List UInt8)) : Prop := n = ls.length ∧ (0 < n → ∃ g off, A = some ⟨g, off, none⟩ ∧ g < w.heap.size ∧ ∀ i, i < ls.length → w.cell? ⟨g, off + i, none⟩ = some (.string ⟨(gL ls i).toArray⟩))
theorem NmAt.q {w w' : World} {A : Option Addr} {n : Nat} {ls : List (List UInt8)} (h : NmAt w A n ls) (hq : Q w w') : NmAt w' A n ls :=
  ⟨h.1, fun h0 => let ⟨g, off, e, hg, hc⟩ := h.2 h0; ⟨g, off, e, Nat.lt_of_lt_of_le hg hq.size, fun i hi => hq.cell (hc i hi)⟩⟩
theorem NmAt.at {w : World} {A : Option Addr} {n : Nat} {ls : List (List UInt8)} (h : NmAt w A n ls) {i : Nat} (hi : i < n) : ∃ g off, A = some ⟨g, off, none⟩ ∧ w.cell? ⟨g, off + i, none⟩ = some (.string ⟨(gL ls i).toArray⟩) := by
  obtain ⟨g, off, e, _, hc⟩ := h.2 (by omega)
  exact ⟨g, off, e, hc i (by rw [← h.1]; exact hi)⟩
theorem NmAt.lit (xs : List (List UInt8)) (w : World) (e : TypeId) : NmAt (w.alloc (.cells (xs.map strV).toArray e)) (some ⟨w.heap.size, 0, none⟩) xs.length xs :=
  ⟨rfl, fun _ => ⟨w.heap.size, 0, rfl, by simp, fun i hi => by rw [Nat.zero_add]; exact lit_cells xs w e i hi⟩⟩
theorem blw_lt : ∀ a b : List UInt8, Op.bytesLess a b = true ↔ a < b := by
  intro a
  induction a with
  | nil => intro b; cases b <;> simp [Op.bytesLess]
  | cons x a ih =>
    intro b
    cases b with
    | nil => simp [Op.bytesLess]
    | cons y b =>
      rw [Op.bytesLess, List.cons_lt_cons_iff]
      simp [ih]
def NmPost (ls : List (List UInt8)) (w : World) (e : Ending) (w' : World) : Prop := (∃ r, e = .returned (.bool r) ∧ (r = true ↔ namesOk ls)) ∧ Q w w'
set_option maxRecDepth 100000 in
set_option maxHeartbeats 1000000 in
theorem names_any (A : Option Addr) (n cap : Nat) (ls : List (List UInt8)) (w : World) (h : NmAt w A n ls) (hn : n ≤ 10000000) (hb : ∀ l ∈ ls, l.length ≤ 100000000) :
    Calls Tryz.prog 66 #[.slice A n cap] w (NmPost ls w) := by
  obtain rfl := h.1
  have HP := Lib.hid h
  have HB := Lib.hid hb
  clear h hb
  go_enter Tryz.func66, Tryz.ntmps66
  go_wp2_with fail
  go_loopw [7] (fun i wr => ∃ k : Nat, k ≤ ls.length ∧ i = .int .i64 (k : Int) ∧ Hid (∀ j, j < k → nameAt ls j) ∧ Hid (Q w wr)) (fun i _ => ls.length - (intOf i).toNat)
  case atStart => exact ⟨0, by omega, rfl, Lib.hid (fun j h => by omega), Lib.hid (Q.refl _)⟩
  case round =>
    obtain ⟨k, hk, rfl, HA, HQ⟩ := hrel
    by_cases hlt : k < ls.length
    · have g1 : decide (k < ls.length) = true := by simpa using hlt
      obtain ⟨g, off, rfl, cx⟩ := (HP.out.q HQ.out).at hlt
      have HNo : Hid (¬ nameAt ls k → ¬ namesOk ls) := Lib.hid (fun h h2 => h (h2.2 k hlt))
      have hxl : (gL ls k).length ≤ 100000000 := by rw [gL_get ls k hlt]; exact HB.out _ (List.getElem_mem hlt)
      obtain ⟨x, hx⟩ : ∃ x, gL ls k = x := ⟨_, rfl⟩
      have HX := Lib.hid hx
      rw [hx] at cx hxl
      clear hx
      rename World => wa
      rcases hE : x.isEmpty with _ | _
      · have HTr := Lib.hid (fun W => trimw_any x W (by omega))
        have htw := trim_w x
        obtain ⟨TR, hTR⟩ : ∃ TR, Lib.trimS x setW = TR := ⟨_, rfl⟩
        rw [hTR] at HTr htw
        clear hTR
        rcases hall : x.all chrW with _ | _
        · have hTE : TR.isEmpty = false := by
            rw [hall] at htw
            rcases TR with _ | ⟨a, r⟩
            · simp at htw
            · rfl
          have HF : Hid (¬ namesOk ls) := Lib.hid (HNo.out (fun h => by have h1 := h.1; rw [HX.out] at h1; unfold okName at h1; rw [hall] at h1; simp at h1))
          clear htw hall HNo
          go_wp2_with fail
          refine (HTr.out _).mono ?_
          rintro e w2 ⟨rfl, hq2⟩
          have HQ2 := Lib.hid (HQ.out.trans hq2)
          clear hq2
          go_wp2_with fail
          go_ret
          exact ⟨⟨false, rfl, by simp [HF.out]⟩, HQ2.out⟩
        · have hTE : TR = [] := by
            rw [hall] at htw
            simpa using htw
          subst hTE
          have HOK : Hid (okName (gL ls k) = true) := Lib.hid (by rw [HX.out]; unfold okName; rw [hall, hE]; rfl)
          clear htw hall
          rcases k with _ | m
          · rw [Nat.add_zero] at cx
            have HA2 : Hid (∀ j, j < 0 + 1 → nameAt ls j) := Lib.hid (fun j hj => by
              obtain rfl : j = 0 := by omega
              exact ⟨HOK.out, fun h => by omega⟩)
            rw [show ((0 : Nat) : Int) = 0 from rfl]
            clear HNo
            go_wp2_with fail
            refine (HTr.out _).mono ?_
            rintro e w2 ⟨rfl, hq2⟩
            have HQ2 := Lib.hid (HQ.out.trans hq2)
            clear hq2
            go_wp2_with fail
            go_roundw
            case rel => exact ⟨0 + 1, by omega, by go_num, HA2, HQ2⟩
            case measure => simp [intOf]; omega
          · obtain ⟨g2, off2, had, cy⟩ := (HP.out.q HQ.out).at (show m < ls.length by omega)
            cases had
            have hmi : 0 < (m : Int) + 1 := by omega
            obtain ⟨y, hy⟩ : ∃ y, gL ls m = y := ⟨_, rfl⟩
            have HY := Lib.hid hy
            rw [hy] at cy
            clear hy
            go_wp2_with fail
            refine (HTr.out _).mono ?_
            rintro e w2 ⟨rfl, hq2⟩
            have cx2 := hq2.cell cx
            have cy2 := hq2.cell cy
            have HQ2 := Lib.hid (HQ.out.trans hq2)
            clear hq2
            rcases hb1 : Op.bytesLess x y with _ | _
            · rcases hb2 : (x == y) with _ | _
              · have hlt2 : y < x := by
                  have h1 : ¬ x < y := fun h => by rw [(blw_lt x y).2 h] at hb1; cases hb1
                  have h2 : x ≠ y := by simpa using hb2
                  exact List.not_le.1 (fun hle => h2 (List.le_antisymm hle (List.not_lt.1 h1)))
                have HA2 : Hid (∀ j, j < m + 1 + 1 → nameAt ls j) := Lib.hid (fun j hj => by
                  by_cases e : j = m + 1
                  · subst e; exact ⟨HOK.out, fun _ => by rw [HX.out, show m + 1 - 1 = m by omega, HY.out]; exact hlt2⟩
                  · exact HA.out j (by omega))
                clear hlt2 HNo
                go_wp2_with fail
                go_roundw
                case rel => exact ⟨m + 1 + 1, by omega, by go_num, HA2, HQ2⟩
                case measure => simp [intOf]; omega
              · have hxy : x = y := by simpa using hb2
                have hno : ¬ y < x := fun h => by rw [hxy] at h; exact List.lt_irrefl y h
                clear hxy
                have HF : Hid (¬ namesOk ls) := Lib.hid (HNo.out (fun h => by
                  have h1 := h.2 (by omega)
                  rw [HX.out, show m + 1 - 1 = m by omega, HY.out] at h1
                  exact hno h1))
                clear HNo hno
                go_wp2_with fail
                go_ret
                refine ⟨⟨false, ?_, by simp [HF.out]⟩, HQ2.out⟩
                first | rfl | (show Ending.returned (.bool _) = .returned (.bool false); simp [*])
            · have hno : ¬ y < x := fun h => List.lt_irrefl _ (List.lt_trans h ((blw_lt x y).1 hb1))
              have HF : Hid (¬ namesOk ls) := Lib.hid (HNo.out (fun h => by
                have h1 := h.2 (by omega)
                rw [HX.out, show m + 1 - 1 = m by omega, HY.out] at h1
                exact hno h1))
              clear HNo hno
              go_wp2_with fail
              go_ret
              refine ⟨⟨false, ?_, by simp [HF.out]⟩, HQ2.out⟩
              first | rfl | (show Ending.returned (.bool _) = .returned (.bool false); simp [*])
      · have HF : Hid (¬ namesOk ls) := Lib.hid (HNo.out (fun h => by have h1 := h.1; rw [HX.out] at h1; unfold okName at h1; rw [hE] at h1; simp at h1))
        clear HNo
        go_wp2_with fail
        go_ret
        exact ⟨⟨false, rfl, by simp [HF.out]⟩, HQ.out⟩
    · obtain rfl : k = ls.length := by omega
      clear hlt
      by_cases h0 : ls.length = 0
      · have HF : Hid (¬ namesOk ls) := Lib.hid (fun h => h.1 (List.eq_nil_of_length_eq_zero h0))
        have h0i : ¬ 0 < (ls.length : Int) := by omega
        clear h0
        go_wp2_with fail
        go_ret
        exact ⟨⟨_, rfl, by simp only [HF.out, iff_false, decide_eq_true_eq]; omega⟩, HQ.out⟩
      · have HF : Hid (namesOk ls) := Lib.hid ⟨fun e => h0 (by rw [e]; rfl), HA.out⟩
        have h0i : 0 < (ls.length : Int) := by omega
        clear h0
        go_wp2_with fail
        go_ret
        exact ⟨⟨_, rfl, by simp only [HF.out, iff_true, decide_eq_true_eq]; omega⟩, HQ.out⟩
end Go.Proofs.YtmmoenbmgcplkaaGreatDoor
/- sign: inner; blanks squeezed; texts joined. -/
set_option linter.unusedVariables false
set_option linter.unusedSimpArgs false
namespace Go.Proofs.YtmmoenbmgcplkaaGreatDoor
open Go Go.RowKit
def chrN (r : Nat) : Bool := decide (97 ≤ r ∧ r ≤ 122) || decide (48 ≤ r ∧ r ≤ 57) || decide (r = 45) || decide (r = 95)
def badI (r : Nat) : Bool := !chrN r
set_option maxRecDepth 100000 in
set_option maxHeartbeats 1000000 in
theorem badI_any (x : Nat) (hx : x ≤ 1114111) (w : World) : Calls Tryz.prog 111 #[.int .i32 (x : Int)] w fun e w' => e = .returned (.bool (badI x)) ∧ w' = w := by
  have hf : (badI x = true) ↔ ¬ ((97 ≤ x ∧ x ≤ 122) ∨ (48 ≤ x ∧ x ≤ 57) ∨ x = 45 ∨ x = 95) := by
    unfold badI chrN
    rw [Bool.not_eq_true', Bool.or_eq_false_iff, Bool.or_eq_false_iff, Bool.or_eq_false_iff]
    simp only [decide_eq_false_iff_not]
    omega
  have HF := Lib.hid hf
  clear hf
  go_enter Tryz.func111, Tryz.ntmps111
  go_wp2_with fail
  all_goals
    go_ret
    refine ⟨?_, rfl⟩
    show Ending.returned (.bool _) = .returned (.bool _)
    refine congrArg _ (congrArg _ ?_)
    rw [Bool.eq_iff_iff, HF.out]
    try simp only [Bool.not_eq_true', Bool.or_eq_false_iff, Bool.or_eq_true, Bool.and_eq_true, decide_eq_true_eq, decide_eq_false_iff_not, beq_iff_eq, beq_eq_false_iff_ne, true_iff, iff_true, Bool.true_or, Bool.or_true, Bool.false_or, Bool.or_false, Bool.true_and, Bool.false_and, Bool.and_true, Bool.and_false, reduceCtorEq, false_iff, iff_false, Bool.not_true, Bool.not_false]
    try omega
theorem badI_high : ∀ r, 127 ≤ r → badI r = true := fun r h => by
  unfold badI chrN
  rw [Bool.not_eq_true', Bool.or_eq_false_iff, Bool.or_eq_false_iff, Bool.or_eq_false_iff]
  simp only [decide_eq_false_iff_not]
  omega
theorem badI_chr (b : UInt8) : badI b.toNat = !chrW b := by
  have h : ∀ n : Fin 256, badI n.val.toUInt8.toNat = !chrW n.val.toUInt8 := by decide +kernel
  have := h ⟨b.toNat, b.toNat_lt⟩
  simpa using this
theorem enters_inner : ∀ args w, (callFunc 111 args).run Tryz.prog w = .ok (.enter 111 args) w := enters_of Tryz.func111 (by kernel_rfl) rfl
theorem inner_any (l : List UInt8) (w : World) : Calls Tryz.prog 67 #[.string ⟨l.toArray⟩] w fun e w' => e = .returned (.bool (l.all chrW)) ∧ Q w w' := by
  have HC : Hid (∀ W, Calls Tryz.prog 110 #[.string ⟨l.toArray⟩, .func (.func 111) #[] #[]] W fun e w' => e = .returned (.bool (!l.all chrW)) ∧ Q W w') := Lib.hid (fun W => by
    refine (Tryz.strings_ContainsFunc_grows 111 #[] enters_inner badI ⟨l.toArray⟩ W ?_).mono ?_
    · intro W2 x hx _
      refine (badI_any x hx W2).mono ?_
      rintro e w' ⟨rfl, rfl⟩
      exact ⟨rfl, Below.refl _ _⟩
    · rintro e w' ⟨rfl, hb⟩
      refine ⟨?_, hb⟩
      have := idx_any badI badI_high l
      rw [show (l.any fun b => badI b.toNat) = !l.all chrW by
        rw [List.not_all_eq_any_not]; congr 1; funext b; exact badI_chr b] at this
      rw [← this])
  generalize l.all chrW = B at HC ⊢
  go_enter Tryz.func67, Tryz.ntmps67
  go_wp2_with fail
  refine (HC.out _).mono ?_
  rintro e w1 ⟨rfl, hq⟩
  have HQ := Lib.hid hq
  clear hq
  go_wp2_with fail
  go_ret
  refine ⟨?_, HQ.out⟩
  show Ending.returned (.bool _) = .returned (.bool _)
  simp
def blankN (r : Nat) : Bool := decide (r = 32) || decide (r = 9)
theorem blank_any (x : Nat) (hx : x ≤ 1114111) (w : World) : Calls Tryz.prog 73 #[.int .i32 (x : Int)] w fun e w' => e = .returned (.bool (blankN x)) ∧ w' = w := by
  have hf : (blankN x = true) ↔ (x = 32 ∨ x = 9) := by unfold blankN; simp
  have HF := Lib.hid hf
  clear hf
  go_enter Tryz.func73, Tryz.ntmps73
  go_wp2_with fail
  all_goals
    go_ret
    refine ⟨?_, rfl⟩
    show Ending.returned (.bool _) = .returned (.bool _)
    refine congrArg _ (congrArg _ ?_)
    rw [Bool.eq_iff_iff, HF.out]
    try simp only [Bool.or_eq_true, decide_eq_true_eq, beq_iff_eq, true_iff, iff_true, Bool.true_or, Bool.or_true, Bool.false_or, Bool.or_false, reduceCtorEq, false_iff, iff_false]
    try omega
theorem enters_blank : ∀ args w, (callFunc 73 args).run Tryz.prog w = .ok (.enter 73 args) w := enters_of Tryz.func73 (by kernel_rfl) rfl
def fieldsL (s : List UInt8) : List (List UInt8) := (Lib.goFieldsP blankN ⟨s.toArray⟩).map (·.data.toList)
def squeezeL (s : List UInt8) : List UInt8 := Lib.join (fieldsL s) [32]
theorem spans_len (p : Nat → Bool) (s : ByteArray) : ∀ (f pos : Nat) (st : Option Nat) (acc : List (Nat × Nat)), (Lib.spansFromP p s f pos st acc).1.length ≤ acc.length + f := by
  intro f
  induction f with
  | zero => intro pos st acc; simp [Lib.spansFromP]
  | succ f ih =>
    intro pos st acc
    unfold Lib.spansFromP
    split
    · split
      · rcases st with _ | a
        · have := ih (pos + (Utf8.decode s pos).2) none acc; simp only; omega
        · have := ih (pos + (Utf8.decode s pos).2) none (acc ++ [(a, pos)]); simp only [List.length_append, List.length_cons, List.length_nil] at this ⊢; omega
      · rcases st with _ | a
        · have := ih (pos + (Utf8.decode s pos).2) (some pos) acc; simp only; omega
        · have := ih (pos + (Utf8.decode s pos).2) (some a) acc; simp only; omega
    · simp only; omega
theorem fieldsL_len (s : List UInt8) : (fieldsL s).length ≤ s.length + 1 := by
  have hsz : (ByteArray.mk s.toArray).size = s.length := rfl
  have h := spans_len blankN ⟨s.toArray⟩ s.length 0 none []
  unfold fieldsL Lib.goFieldsP Lib.spansOfP Lib.closeSpans
  rw [hsz]
  simp only [List.length_map]
  simp only [List.length_nil, Nat.zero_add] at h
  split <;> (try simp only [List.length_append, List.length_cons, List.length_nil]) <;> omega
theorem fieldsL_each (s : List UInt8) : ∀ x ∈ fieldsL s, x.length ≤ s.length := by
  intro x hx
  unfold fieldsL Lib.goFieldsP at hx
  rw [List.map_map] at hx
  obtain ⟨y, _, rfl⟩ := List.mem_map.1 hx
  show (((ByteArray.mk s.toArray).extract y.1 y.2).data.toList).length ≤ _
  rw [extract_list]
  show (sub s y.1 y.2).length ≤ _
  rw [length_sub]; omega
theorem squeezeL_len (s : List UInt8) : (squeezeL s).length ≤ (s.length + 1) * (s.length + 1) :=
  Nat.le_trans (join_len 32 s.length (fieldsL s) (fieldsL_each s)) (Nat.mul_le_mul_right _ (fieldsL_len s))
theorem join_nm (A : Option Addr) (n cap : Nat) (ls : List (List UInt8)) (sep : List UInt8) (w : World) (h : NmAt w A n ls) (hc : n ≤ cap) (hl : (Lib.join ls sep).length ≤ 140737488355328) (hn : n ≤ 140737488355328) :
    Calls Tryz.prog 33 #[.slice A n cap, .string ⟨sep.toArray⟩] w fun ev w' => ev = .returned (.string ⟨(Lib.join ls sep).toArray⟩) ∧ Q w w' := by
  by_cases h0 : n = 0
  · subst h0
    have : ls = [] := List.eq_nil_of_length_eq_zero h.1.symm
    subst this
    refine (Tryz.strings_Join_none A cap ⟨sep.toArray⟩ w).mono ?_
    rintro e w' ⟨rfl, rfl⟩
    exact ⟨by rw [join_nil], Q.refl _⟩
  · obtain ⟨g, off, rfl, hg, hcell⟩ := h.2 (by omega)
    have hxs : (ls.map fun l => (⟨l.toArray⟩ : ByteArray)).map (·.data.toList) = ls := by rw [List.map_map]; simp [Function.comp_def]
    have hxl : (ls.map fun l => (⟨l.toArray⟩ : ByteArray)).length = n := by rw [List.length_map]; exact h.1.symm
    have := Tryz.strings_Join g off cap (ls.map fun l => (⟨l.toArray⟩ : ByteArray)) ⟨sep.toArray⟩ w (fun j x hx => by
      have hj : j < ls.length := by have := (List.getElem?_eq_some_iff.1 hx).1; rw [hxl, h.1] at this; exact this
      rw [hcell j hj]
      rw [List.getElem?_map, List.getElem?_eq_getElem hj] at hx
      injection hx with hx
      subst hx; rw [gL_get _ _ hj]) hg (by rw [hxl]; exact hn) (by rw [hxl]; exact hc) (by rw [hxs]; exact hl)
    rw [hxl, hxs] at this
    exact this
theorem fields_any (s : List UInt8) (w : World) (hs : s.length ≤ 100000000) : Calls Tryz.prog 72 #[.string ⟨s.toArray⟩, .func (.func 73) #[] #[]] w fun e w' => (∃ A, e = .returned (.slice A (fieldsL s).length (fieldsL s).length) ∧ NmAt w' A (fieldsL s).length (fieldsL s)) ∧ Q w w' := by
  refine (Tryz.strings_FieldsFunc_grows 73 #[] enters_blank blankN ⟨s.toArray⟩ w (by show s.length ≤ _; omega) ?_).mono ?_
  · intro W x hx _
    refine (blank_any x hx W).mono ?_
    rintro e w' ⟨rfl, rfl⟩
    exact ⟨rfl, Below.refl _ _⟩
  · rintro e w' ⟨A, rfl, hA, ho, hb⟩
    have hl : (fieldsL s).length = (Lib.goFieldsP blankN ⟨s.toArray⟩).length := by unfold fieldsL; simp
    rw [hl]
    refine ⟨⟨_, rfl, hl.symm, fun h0 => ?_⟩, hb⟩
    rcases ho.2 with ⟨h1, _⟩ | ⟨g, cap, cur, h1, h2, h3, h4, h5, h6, h7⟩
    · cases h1
    · cases h1
      refine ⟨A, 0, rfl, lt_of_heap h3, fun i hi => ?_⟩
      rw [Nat.zero_add, cell_of_row _ _ _ _ _ _ h3]
      have hi2 : i < (Lib.goFieldsP blankN ⟨s.toArray⟩).length := by rw [← hl]; exact hi
      have e : (cur.toList.take ((Lib.goFieldsP blankN ⟨s.toArray⟩).length * 1))[i]? = ((Lib.goFieldsP blankN ⟨s.toArray⟩).map Value.string)[i]? := by rw [h7]
      rw [List.getElem?_take, if_pos (by omega), Array.getElem?_toList] at e
      rw [e, List.getElem?_map, List.getElem?_eq_getElem hi2, gL_get _ _ hi]
      simp [fieldsL]
end Go.Proofs.YtmmoenbmgcplkaaGreatDoor
/- Plain: how long what sign.canonical makes can be. -/
set_option linter.unusedVariables false
set_option linter.unusedSimpArgs false
namespace Go.Proofs.YtmmoenbmgcplkaaGreatDoor
open Go Go.RowKit
theorem decR_len : ∀ (n : Nat) (l : List UInt8), l.length ≤ n → (decR l).1.length ≤ l.length := by
  intro n
  induction n with
  | zero => intro l hl; rcases l with _ | ⟨x, r⟩
            · simp [decR]
            · simp at hl
  | succ n ih =>
    intro l hl
    rcases l with _ | ⟨c, r⟩
    · simp [decR]
    · by_cases hc : c = 37
      · subst hc
        rcases r with _ | ⟨x, _ | ⟨y, t⟩⟩
        · rw [decR_s1]; simp
        · rw [decR_s2]; simp
        · rw [decR_esc]
          split
          · simp
          · have := ih t (by simp at hl; omega)
            simp; omega
      · rw [decR_plain _ _ hc]
        have := ih r (by simp at hl; omega)
        simp; omega
theorem decOut_len (l : List UInt8) : (decOut l).1.length ≤ l.length := by
  unfold decOut
  rcases (decR l).2 with _ | k
  · exact decR_len l.length l (Nat.le_refl _)
  · simp
theorem heavy_snoc (ps : List PairD) (p : PairD) : heavy (ps ++ [p]) = heavy ps + (p.1.length + p.2.length + 3) := by unfold heavy; simp
theorem stepT_heavy (st : TSt) (part : List UInt8) : heavy (stepT st part).ps ≤ heavy st.ps + 3 * (part.length + 1) := by
  unfold stepT
  have h := cutB_le 61 part
  have h1 := decOut_len (cutB 61 part).1
  have h2 := decOut_len (cutB 61 part).2.1
  split
  · simp only; omega
  · split
    · simp only [heavy_snoc]; omega
    · simp only [heavy_snoc, List.length_nil]; omega
theorem fold_heavy (ls : List (List UInt8)) : ∀ st : TSt, heavy (ls.foldl stepT st).ps ≤ heavy st.ps + 3 * sumU ls := by
  induction ls with
  | nil => intro st; simp
  | cons l r ih =>
    intro st
    have a := ih (stepT st l)
    have b := stepT_heavy st l
    simp only [List.foldl_cons, sumU, List.map_cons, List.sum_cons] at *
    omega
theorem tgt_heavy (s : List UInt8) : heavy (tgtL s).2.1 ≤ 3 * (s.length + 1) ∧ (tgtL s).1.length ≤ s.length := by
  have hr : heavy (runT s).ps ≤ 3 * (s.length + 1) := by
    have h := fold_heavy (splitC 38 (cutB 63 s).2.1) (startT (cutB 63 s).1)
    have h0 : heavy (startT (cutB 63 s).1).ps = 0 := by unfold startT heavy; simp
    rw [sumU_split, h0] at h
    have := cutB_le 63 s
    unfold runT; omega
  have hp : (decOut (cutB 63 s).1).1.length ≤ s.length := by
    have h1 := decOut_len (cutB 63 s).1
    have h2 := cutB_le 63 s
    omega
  have h0 : heavy [] = 0 := by unfold heavy; simp
  unfold tgtL
  split
  · split
    · simp only [h0]; exact ⟨by omega, by simp⟩
    · split
      · simp only [h0]; exact ⟨by omega, by simp⟩
      · exact ⟨hr, hp⟩
  · simp only [h0]; exact ⟨by omega, by simp⟩
def totS (l : List (Nat × Nat)) : Nat := (l.map fun x => x.2 - x.1 + 1).sum
theorem totS_snoc (l : List (Nat × Nat)) (x : Nat × Nat) : totS (l ++ [x]) = totS l + (x.2 - x.1 + 1) := by unfold totS; simp
theorem spans_tot (p : Nat → Bool) (s : List UInt8) : ∀ (f pos : Nat) (st : Option Nat) (acc : List (Nat × Nat)), pos ≤ s.length → (∀ a, st = some a → a ≤ pos) → totS acc ≤ st.getD pos →
    (∀ a, (Lib.spansFromP p ⟨s.toArray⟩ f pos st acc).2 = some a → a ≤ s.length) ∧ totS (Lib.spansFromP p ⟨s.toArray⟩ f pos st acc).1 ≤ (Lib.spansFromP p ⟨s.toArray⟩ f pos st acc).2.getD s.length := by
  have hsz : (ByteArray.mk s.toArray).size = s.length := rfl
  intro f
  induction f with
  | zero =>
    intro pos st acc h1 h2 h3
    unfold Lib.spansFromP
    refine ⟨fun a ha => Nat.le_trans (h2 a ha) h1, ?_⟩
    rcases st with _ | a
    · simp only [Option.getD_none] at h3 ⊢; omega
    · exact h3
  | succ f ih =>
    intro pos st acc h1 h2 h3
    unfold Lib.spansFromP
    rw [hsz]
    by_cases hp : pos < s.length
    · have hd := dec_facts s pos hp
      rw [if_pos hp]
      by_cases hq : p (Utf8.decode ⟨s.toArray⟩ pos).1 = true
      · rw [if_pos hq]
        rcases st with _ | a
        · exact ih _ _ _ (by omega) (fun a ha => by cases ha) (by simp only [Option.getD_none] at h3 ⊢; omega)
        · have ha := h2 a rfl
          exact ih _ _ _ (by omega) (fun a ha => by cases ha) (by simp only [Option.getD_none, Option.getD_some, totS_snoc] at h3 ⊢; omega)
      · rw [if_neg hq]
        rcases st with _ | a
        · exact ih _ _ _ (by omega) (fun a ha => by cases ha; omega) (by simp only [Option.getD_none, Option.getD_some] at h3 ⊢; exact h3)
        · have ha := h2 a rfl
          exact ih _ _ _ (by omega) (fun a' ha' => by cases ha'; omega) h3
    · rw [if_neg hp]
      refine ⟨fun a ha => Nat.le_trans (h2 a ha) h1, ?_⟩
      rcases st with _ | a
      · simp only [Option.getD_none] at h3 ⊢; omega
      · exact h3
theorem fields_sum (s : List UInt8) : sumU (fieldsL s) ≤ s.length + 1 := by
  have hsz : (ByteArray.mk s.toArray).size = s.length := rfl
  have h := spans_tot blankN s s.length 0 none [] (by omega) (fun a h => by cases h) (by simp [totS])
  have key : totS (Lib.spansOfP blankN ⟨s.toArray⟩) ≤ s.length + 1 := by
    unfold Lib.spansOfP Lib.closeSpans
    rw [hsz]
    rcases hx : Lib.spansFromP blankN ⟨s.toArray⟩ s.length 0 none [] with ⟨l, _ | a⟩
    · rw [hx] at h; simp only [Option.getD_none] at h ⊢; omega
    · rw [hx] at h
      have h1 := h.1 a rfl
      have h2 := h.2
      simp only [Option.getD_some, totS_snoc] at h2 ⊢; omega
  refine Nat.le_trans ?_ key
  unfold fieldsL Lib.goFieldsP sumU totS
  generalize Lib.spansOfP blankN ⟨s.toArray⟩ = L
  induction L with
  | nil => simp
  | cons x r ih =>
    simp only [List.map_cons, List.sum_cons]
    have : (((ByteArray.mk s.toArray).extract x.1 x.2).data.toList).length ≤ x.2 - x.1 := by
      rw [extract_list]
      show (sub s x.1 x.2).length ≤ _
      rw [length_sub]; omega
    omega
theorem squeeze_le (s : List UInt8) : (squeezeL s).length ≤ s.length + 1 := Nat.le_trans (sum_len_join 32 (fieldsL s)) (fields_sum s)
end Go.Proofs.YtmmoenbmgcplkaaGreatDoor
