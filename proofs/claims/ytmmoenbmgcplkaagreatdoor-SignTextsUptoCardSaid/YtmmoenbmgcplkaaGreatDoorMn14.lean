/- Texts of this proof, laid into one: SgN, SgO, SgP. -/
import Derived.Test.YtmmoenbmgcplkaaGreatDoorMn13
/- sign.Sign. -/
set_option linter.unusedVariables false
set_option linter.unusedSimpArgs false
namespace Go.Proofs.YtmmoenbmgcplkaaGreatDoor
open Go Go.RowKit
def hostL : List UInt8 := [104, 111, 115, 116]
def datedL : List UInt8 := [120, 45, 97, 109, 122, 45, 100, 97, 116, 101]
def authL : List UInt8 := [97, 117, 116, 104, 111, 114, 105, 122, 97, 116, 105, 111, 110]
def credL : List UInt8 := [65, 87, 83, 52, 45, 72, 77, 65, 67, 45, 83, 72, 65, 50, 53, 54, 32, 67, 114, 101, 100, 101, 110, 116, 105, 97, 108, 61]
def shdL : List UInt8 := [44, 32, 83, 105, 103, 110, 101, 100, 72, 101, 97, 100, 101, 114, 115, 61]
def sgnL : List UInt8 := [44, 32, 83, 105, 103, 110, 97, 116, 117, 114, 101, 61]
def names3 : List (List UInt8) := [hostL, bodySumL, datedL]
def valueL (u : UserD) (st rg c : List UInt8) : List UInt8 := credL ++ u.id ++ [47] ++ scopeL st rg ++ shdL ++ Lib.join names3 [59] ++ sgnL ++ sigL u.sec st rg c
def TimeOk (now : Int) : Prop := 0 ≤ now ∧ now ≤ 253402300799
instance (n : Int) : Decidable (TimeOk n) := by unfold TimeOk; infer_instance
def okSign (r : ReqD) (u : UserD) (now : Int) (rg : List UInt8) : Prop :=
  TimeOk now ∧ wordL u.id = true ∧ wordL rg = true ∧ manyL r.fs hostL = 1 ∧ manyL r.fs datedL + manyL r.fs bodySumL + manyL r.fs authL = 0
instance (r : ReqD) (u : UserD) (now : Int) (rg : List UInt8) : Decidable (okSign r u now rg) := by unfold okSign; infer_instance
def dressR (r : ReqD) (now : Int) : ReqD := { r with fs := r.fs ++ [(datedL, stampL now), (bodySumL, hexL (sha r.body))] }
def signQ (r : ReqD) (u : UserD) (now : Int) (rg : List UInt8) : Option ReqD :=
  if okSign r u now rg then
    match canonQ (dressR r now) names3 with
    | none => none
    | some c => some { r with fs := (dressR r now).fs ++ [(authL, valueL u (stampL now) rg c)] }
  else none
def SignPost (q : Option ReqD) (w : World) (e : Ending) (w' : World) : Prop :=
  match q with
  | none => e = .returned (.tuple #[.agg (reqV zeroR (.slice none 0 0)).toArray, .int .i64 1]) ∧ Q w w'
  | some r' => ∃ v, e = .returned (.tuple #[.agg (reqV r' v).toArray, .int .i64 0]) ∧ OwnU w w' v r'.fs ∧ Q w w'
structure SignOk (r : ReqD) (u : UserD) (rg : List UInt8) : Prop where
  tg : r.tg.length ≤ 1050000
  m : r.m.length ≤ 10000000
  hv : (r.fs.map fun p => p.1.length + p.2.length + 3).sum ≤ 3000000
  body : r.body.length ≤ 100000000
  id : u.id.length ≤ 10000000
  sec : u.sec.length ≤ 10000000
  rg : rg.length ≤ 10000000
theorem reqV_one (r : ReqD) (A : Option Addr) (n c : Nat) : (reqV r (.slice A n c)).toArray.all (·.oneCell') = true := by
  simp [reqV, Value.oneCell']
theorem SignOk.cnt {r : ReqD} {u : UserD} {rg : List UInt8} (h : SignOk r u rg) : r.fs.length ≤ 1000000 := by
  have h1 : ∀ ps : List PairD, 3 * ps.length ≤ (ps.map fun p => p.1.length + p.2.length + 3).sum := by
    intro ps
    induction ps with
    | nil => simp
    | cons p t ih => simp only [List.map_cons, List.sum_cons, List.length_cons]; omega
  have := h1 r.fs; have := h.hv; omega
theorem SignOk.each {r : ReqD} {u : UserD} {rg : List UInt8} (h : SignOk r u rg) : ∀ p ∈ r.fs, p.1.length ≤ 10000000 ∧ p.2.length ≤ 10000000 := fun p hp => by
  have h1 := heavy_mem hp
  have h2 := h.hv
  unfold heavy at h1
  constructor <;> omega
theorem manyL_le (ps : List PairD) (t : List UInt8) : manyL ps t ≤ ps.length := List.countP_le_length
theorem Stamp_no' (t : Int) (w : World) (h : t < 0 ∨ 253402300799 < t) : Calls Tryz.prog 24 #[.int .i64 t] w fun e w' => e = .returned (.tuple #[.string ⟨#[]⟩, .int .i64 1]) ∧ Q w w' :=
  (Stamp_no t w h).mono fun e w' ⟨h1, h2⟩ => ⟨h1, by rw [← h2]; exact Q.refl _⟩
theorem OwnU.low {w0 w1 w : World} {v : Value} {l : List PairD} (h : OwnU w1 w v l) (hle : w0.heap.size ≤ w1.heap.size) : OwnU w0 w v l := by
  refine ⟨h.1, ?_⟩
  rcases h.2 with h2 | ⟨g, cap, cur, hv, h1, h2⟩
  · exact .inl h2
  · exact .inr ⟨g, cap, cur, hv, Nat.le_trans hle h1, h2⟩
theorem PairsAt.lit (w : World) (ps : List PairD) {n : Nat} (h : n = ps.length) : PairsAt (w.alloc (.cells (cellsU ps).toArray 37)) (some ⟨w.heap.size, 0, none⟩) n ps := by
  refine ⟨h, fun _ => ⟨w.heap.size, 0, rfl, by show _ < (w.heap.push _).size; simp, fun j hj i v hv => ?_⟩⟩
  have hi : i < 2 := by have := (List.getElem?_eq_some_iff.1 hv).1; rwa [pairL_len] at this
  rw [cell_of_row _ _ _ _ _ _ (heap_alloc_new w _), Nat.zero_add]
  have := cellsU_at ps j hj i hi
  rw [hv] at this
  simpa using this
theorem OwnU.pa {w0 w : World} {A : Option Addr} {n c : Nat} {l : List PairD} (h : OwnU w0 w (.slice A n c) l) : PairsAt w A n l := by
  obtain ⟨A', c', e, _, hp⟩ := h.pairs
  injection e with e1 e2 e3
  rw [e1, e2]; exact hp
theorem RB.gb {w w' : World} {b : Nat} {r : ReqD} {v : Value} {row : Option Nat} (h : RB w b r v) (hg : w.grownBy w' row) (hr : row ≠ some b) : RB w' b r v := by
  unfold RB; rw [hg.block b h.lt (fun e => hr e.symm)]; exact h
theorem linesL_each (fs : List PairD) (m : Nat) (hm : ∀ t v, fieldL fs t = some v → v.length ≤ m) : ∀ (ns ls : List (List UInt8)), linesL fs ns = some ls → ls.length = ns.length ∧ (sumU ls ≤ sumU ns + ls.length * (m + 2)) := by
  intro ns
  induction ns with
  | nil => intro ls h; simp only [linesL, Option.some.injEq] at h; subst h; simp [sumU]
  | cons n r ih =>
    intro ls h
    rw [linesL] at h
    rcases hf : fieldL fs n with _ | v
    · have : lineL fs n = none := by unfold lineL; rw [hf]; rfl
      rw [this] at h; cases h
    · have e : lineL fs n = some (n ++ 58 :: squeezeL v) := by unfold lineL; rw [hf]; rfl
      rw [e] at h
      simp only at h
      rcases hl : linesL fs r with _ | b
      · rw [hl] at h; cases h
      · rw [hl] at h
        injection h with h
        subst h
        obtain ⟨h1, h2⟩ := ih b hl
        have h3 := squeeze_le v
        have h4 := hm n v hf
        refine ⟨by simp [h1], ?_⟩
        simp only [sumU, List.map_cons, List.sum_cons, List.length_append, List.length_cons] at *
        rw [Nat.succ_mul]; omega
theorem canonQ_len {r : ReqD} {names : List (List UInt8)} {c : List UInt8} (hok : ReqOk r) (hn : sumU names ≤ 10000000) (hk : names.length ≤ 1060000) (h : canonQ r names = some c) : c.length ≤ 140737488355328 := by
  unfold canonQ at h
  split at h
  · rcases hl : linesL r.fs names with _ | ls
    · rw [hl] at h; cases h
    · rcases hf : fieldL r.fs bodySumL with _ | v
      · rw [hl, hf] at h; cases h
      · rw [hl, hf] at h
        injection h with h
        have hv := hok.hv
        have hfm : ∀ t v, fieldL r.fs t = some v → v.length ≤ 10000000 := fun t v h => by have := fieldL_mem h; unfold heavy at this; omega
        obtain ⟨h1, h2⟩ := linesL_each r.fs 10000000 hfm names ls hl
        have h3 := hfm _ _ hf
        have h4 := sum_len_join 59 names
        have ht := hok.tg
        have hm := hok.m
        obtain ⟨h5, h6⟩ := tgt_heavy r.tg
        have h7 := canon_heavy (tgtL r.tg).2.1
        have h8 : (encL false (tgtL r.tg).1).length ≤ 3 * (tgtL r.tg).1.length := encL_le _ _
        subst h
        refine Nat.le_trans (sum_len_join 10 _) ?_
        have h9 : ls.length * 10000002 ≤ 1060000 * 10000002 := Nat.mul_le_mul_right _ (by omega)
        simp only [headL, sumU, List.map_append, List.map_cons, List.map_nil, List.sum_append, List.sum_cons, List.sum_nil, List.length_nil] at *
        omega
  · cases h
set_option maxRecDepth 100000 in
set_option maxHeartbeats 4000000 in
theorem Sign_any (r : ReqD) (A : Option Addr) (n c : Nat) (u : UserD) (now : Int) (rg : List UInt8) (w : World) (hf : PairsAt w A n r.fs) (hc : n ≤ c) (hcap : c ≤ 9223372036854775807) (hok : SignOk r u rg) (hS : S17 w) :
    Calls Tryz.prog 10 #[.agg (reqC r A n c).toArray, .agg (userC u).toArray, .int .i64 now, .string ⟨rg.toArray⟩] w (SignPost (signQ r u now rg) w) := by
  obtain ⟨N, w1, w2, w3, hN, e1, hN1, e2, hN2, e3, b1, b2, b3, q1, q2, q3⟩ := sign_boxes w r (.slice A n c) u
  have HQ3 := Lib.hid q3
  have HB1 := Lib.hid b1
  have HB2 := Lib.hid b2
  have HB3 := Lib.hid b3
  have HS := Lib.hid hS
  have HF := Lib.hid hf
  have HOK := Lib.hid hok
  have hIdl : u.id.length ≤ 100000000 := by have := hok.id; omega
  have hRgl : rg.length ≤ 100000000 := by have := hok.rg; omega
  have HWd := Lib.hid (fun s W (h : s.length ≤ 100000000) => word_any s W h)
  have HRef : Hid (¬ okSign r u now rg → signQ r u now rg = none) := Lib.hid (fun h => by unfold signQ; rw [if_neg h])
  have HMn := Lib.hid (fun (t : List UInt8) W (h1 : t.length ≤ 1000) (h2 : ∀ b ∈ t, b.toNat < 128) (hq : Q w W) => many_any A n c r.fs t W (hf.q hq) (by rw [hf.1]; exact Nat.le_trans hok.cnt (by omega)) hok.each h1 h2 (hS.fo.q hq))
  have hNle : w.heap.size ≤ N + 2 := by omega
  clear b1 b2 b3 hS hf q1 q2 q3
  obtain ⟨name, id, sec⟩ := u
  obtain ⟨m, tg, minor, fs, body, close⟩ := r
  simp only [reqV, userC, zeroR] at e1 e2 e3 hIdl
  simp only at HMn
  unfold reqC userC
  --WALK
  by_cases ht : TimeOk now
  · have HS0 := Lib.hid (fun W (hq : Q w W) => Stamp_ok now W (HS.out.tab.q hq) ht.1 ht.2)
    have hstl : (stampL now).length = 16 := rfl
    have HST := Lib.hid hstl
    obtain ⟨st, hst⟩ : ∃ st, stampL now = st := ⟨_, rfl⟩
    rw [hst] at HS0
    by_cases gI : wordL id = true
    · by_cases gR : wordL rg = true
      · have bh := manyL_le fs hostL
        have bd := manyL_le fs datedL
        have bb := manyL_le fs bodySumL
        have ba := manyL_le fs authL
        have hfn := hok.cnt
        simp only at hfn
        by_cases hmh : manyL fs hostL = 1
        · by_cases hms : manyL fs datedL + manyL fs bodySumL + manyL fs authL = 0
          · --ACCEPT
            have hmd : manyL fs datedL = 0 := by omega
            have hmb : manyL fs bodySumL = 0 := by omega
            have hma : manyL fs authL = 0 := by omega
            have gM : ((((manyL fs [104, 111, 115, 116] : Nat) : Int)) != 1) = false := by
              have : manyL fs [104, 111, 115, 116] = 1 := hmh
              rw [this]; rfl
            unfold datedL at bd hmd
            unfold bodySumL at bb hmb
            unfold authL at ba hma
            obtain ⟨HXL, hHX⟩ : ∃ x, hexL (sha body) = x := ⟨_, rfl⟩
            have hxl := hexsha_len body
            rw [hHX] at hxl
            obtain ⟨SB, hSB⟩ : ∃ x, sha body = x := ⟨_, rfl⟩
            have HSh := Lib.hid (fun W => Sum256_any body W (by have := hok.body; simp only at this; omega))
            have HHx := Lib.hid (fun W => Hex_any (sha body) W (by rw [sha_length]; omega))
            rw [hHX, hSB] at HHx
            rw [hSB] at HSh
            obtain ⟨FSq, hFS⟩ : ∃ x, fs ++ [(datedL, st), (bodySumL, HXL)] = x := ⟨_, rfl⟩
            have hdr : dressR ⟨m, tg, minor, fs, body, close⟩ now = ⟨m, tg, minor, FSq, body, close⟩ := by unfold dressR; simp only [hHX, hst, hFS]
            have hDok : ReqOk ⟨m, tg, minor, FSq, body, close⟩ := by
              have h1 := hok.tg
              have h2 := hok.m
              have h3 := hok.hv
              refine ⟨h1, h2, ?_⟩
              show (FSq.map fun p => p.1.length + p.2.length + 3).sum ≤ 10000000
              rw [← hFS]
              simp only [List.map_append, List.sum_append, List.map_cons, List.map_nil, List.sum_cons, List.sum_nil, datedL, bodySumL, List.length_cons, List.length_nil, hxl]
              have hs2 : st.length = 16 := by rw [← hst]; rfl
              simp only at h3
              omega
            have hFSn : FSq.length = fs.length + 2 := by rw [← hFS]; simp
            obtain ⟨q, hq⟩ : ∃ q, canonQ ⟨m, tg, minor, FSq, body, close⟩ names3 = q := ⟨_, rfl⟩
            have HC := Lib.hid (fun (A' : Option Addr) (c' : Nat) (B : Option Addr) W (hp : PairsAt W A' FSq.length FSq) (hcc : FSq.length ≤ c') (hcap : c' ≤ 9223372036854775807) (hn : NmAt W B 3 names3) (hS : S17 W) => canonical_any ⟨m, tg, minor, FSq, body, close⟩ A' FSq.length c' B 3 3 names3 W hp hcc hcap hDok hn (by omega) (by omega) (by decide) hS)
            rw [hq] at HC
            have HCL : Hid (∀ cq, q = some cq → cq.length ≤ 140737488355328) := Lib.hid (fun cq h => canonQ_len hDok (by decide) (by decide) (hq.trans h))
            have HSQ : Hid (signQ ⟨m, tg, minor, fs, body, close⟩ ⟨name, id, sec⟩ now rg = q.map fun c => ⟨m, tg, minor, FSq ++ [(authL, valueL ⟨name, id, sec⟩ st rg c)], body, close⟩) := Lib.hid (by
              unfold signQ
              rw [if_pos ⟨ht, gI, gR, hmh, hms⟩]; simp only [hdr, hq, hst]; clear hq HC HCL; cases q <;> rfl)
            have HFS := Lib.hid hFS
            have hs16 : st.length = 16 := by rw [← hst]; rfl
            have HCl := Lib.hid (fun W (hq : Q w W) => CloneU_any A n c fs W (HF.out.q hq) (by have := HF.out.1; simp only at this; omega))
            have HFSn := Lib.hid hFSn
            have hNw : w.heap.size ≤ N := by omega
            clear hmh hms ht hst hstl hHX hSB hFS hdr hDok hq hok hFSn
            go_enter Tryz.func10, Tryz.ntmps10
            go_wp2_with fail
            refine (HS0.out _ HQ3.out).mono ?_
            rintro e w4 ⟨rfl, hq4⟩
            have HQ4 := Lib.hid (HQ3.out.trans hq4)
            have HB34 := Lib.hid (HB3.out.q hq4)
            have HB24 := Lib.hid (HB2.out.q hq4)
            have HB14 := Lib.hid (HB1.out.q hq4)
            have kc3 : ∀ m : QW w4, m.val.cell? ⟨N, 3, none⟩ = some (.slice A n c) := fun m => m.cell HB14.out.c.2.2.2.1
            have ku1 : ∀ m : QW w4, m.val.cell? ⟨N + 1, 1, none⟩ = some (.string ⟨id.toArray⟩) := fun m => m.cell HB24.out.c.2.1
            clear e1 e2 e3 hN hN1 hN2 hq4
            go_upto_region 2 with (fail)
            refine wp_region_q (by kernel_rfl) (by kernel_rfl) ?_
            (repeat (go_big_quiet_step (first | (go_at_call 25; exact calls_q (HWd.out _ _ (by assumption))) | (go_at_call 26; exact calls_q (HMn.out _ _ (by decide) (by decide) (Q.trans (HQ4.out) (QW.le _)))))))
            refine wpQuiet_nil ?_
            rintro wx ⟨mx, hmx⟩
            have hqx : Q w4 wx := by rw [hmx]; exact mx.le
            have HX := Lib.hid (HQ4.out.trans hqx)
            have HZ := Lib.hid (HB34.out.q hqx)
            have HB1x := Lib.hid (HB14.out.q hqx)
            have HB2x := Lib.hid (HB24.out.q hqx)
            clear hmx mx hqx kc3 ku1 gM hmd hmb hma bh bd bb ba
            have hNx : N + 2 < wx.heap.size := HZ.out.lt
            go_upto_region 4 with (fail)
            have kc3 : ∀ m : QW wx, m.val.cell? ⟨N, 3, none⟩ = some (.slice A n c) := fun m => m.cell HB1x.out.c.2.2.2.1
            have kc4 : ∀ m : QW wx, m.val.cell? ⟨N, 4, none⟩ = some (.string ⟨body.toArray⟩) := fun m => m.cell HB1x.out.c.2.2.2.2.1
            refine wp_region_noPanic ?_
            refine wp_fin [] [([0, 1, 3, 4, 5, 6], [2, 7, 8]), ([9], [])] [10, 11, 12, 13] (by kernel_rfl) (by kernel_rfl) (fun _ _ _ _ _ h => h) ?_
            simp only [wpFin, wpListK, List.map_cons, List.map_nil, Array.getD_eq_getD_getElem?, List.getElem?_toArray, List.getElem?_cons_succ, List.getElem?_cons_zero, Option.getD_some]
            refine wpQuiet_nil ?_
            (repeat (go_big_quiet_step (fail)))
            refine wpQuiet_nil ?_
            obtain ⟨Wd, hWd⟩ : ∃ W, wx.drew = W := ⟨_, rfl⟩
            have hqd : Q wx Wd := by rw [← hWd]; exact (Q.refl wx).drew
            rw [hWd]
            clear hWd kc3 kc4
            intro K hK
            go_wp2_with fail
            refine (HCl.out _ (HX.out.trans hqd)).mono ?_
            rintro e wc ⟨⟨vc, rfl, hoc⟩, hqc⟩
            have HQc := Lib.hid (hqd.trans hqc)
            have HOc : Hid (OwnU wx wc vc fs) := Lib.hid (hoc.low hqd.size)
            clear hqd hoc hqc
            go_wp2_with fail
            refine hK.out _ _ ⟨⟨_, HQc.out⟩, rfl⟩ ?_
            clear hK K
            intro K hK
            go_wp2_with fail
            refine (HSh.out _).mono ?_
            rintro e wf ⟨rfl, hqf⟩
            have HQf := Lib.hid (HQc.out.trans hqf)
            have HOf := Lib.hid (HOc.out.q hqf)
            clear HQc HOc hqf
            go_wp2_with fail
            refine hK.out _ _ ⟨⟨_, HQf.out⟩, rfl⟩ ?_
            clear hK K
            intro K hK
            go_wp2_with fail
            refine (HHx.out _).mono ?_
            rintro e wg ⟨rfl, hqg⟩
            have HQg := Lib.hid (HQf.out.trans hqg)
            have HOg := Lib.hid (HOf.out.q hqg)
            clear HQf HOf hqg
            go_wp2_with fail
            refine hK.out _ _ ⟨⟨_, HQg.out⟩, rfl⟩ ?_
            clear hK K
            (repeat (go_big_quiet_step (fail)))
            refine wpQuiet_nil ?_
            iterate 3 go_step
            have HPR : Hid (PairsAt (wg.alloc (.cells (cellsU [(datedL, st), (bodySumL, HXL)]).toArray 37)) (some ⟨wg.heap.size, 0, none⟩) 2 [(datedL, st), (bodySumL, HXL)]) := Lib.hid (PairsAt.lit _ _ rfl)
            refine wpList_append_us rfl (.tmp 57) (.tmp 65) rfl wx (wg.alloc (.cells (cellsU [(datedL, st), (bodySumL, HXL)]).toArray 37)) vc fs [(datedL, st), (bodySumL, HXL)] (by rfl) (HOg.out.q ((Q.refl wg).alloc _)) ⟨wg.heap.size, 0, none⟩ 2 2 rfl (by rfl) HPR.out.rowU (Nat.le_trans HQg.out.size ((Q.refl wg).alloc _).size) (by omega) ?_
            intro v5 w5 ho5 hg5
            have HQ5 : Hid (Q wx w5) := Lib.hid (gb_q_own hg5 (HQg.out.alloc _) (fun k hk => (HOg.out.block hk).1))
            rw [HFS.out] at ho5
            obtain ⟨A5, c5, rfl, hc5, hp5⟩ := ho5.pairs
            have hcap5 := ho5.capb'
            have HO5 := Lib.hid ho5
            have HP5 := Lib.hid hp5
            have HB15 := Lib.hid (HB1x.out.q HQ5.out)
            have c3 := HB15.out.c.2.2.2.1
            have f3 := HB15.out.f 3
            clear ho5 hp5 hg5 HOg HQg HPR
            repeat go_step
            refine NoPanic.normal ?_
            obtain ⟨Wn, hWn⟩ : ∃ W, w5.setCell ⟨N, 3, none⟩ (.slice A5 FSq.length c5) = W := ⟨_, rfl⟩
            have HB1n : Hid (RB Wn N ⟨m, tg, minor, fs, body, close⟩ (.slice A5 FSq.length c5)) := Lib.hid (by rw [← hWn]; exact HB15.out.set _)
            have HOn : Hid (OwnU wx Wn (.slice A5 FSq.length c5) FSq) := Lib.hid (by rw [← hWn]; exact HO5.out.setC N 3 _ (by omega))
            have HQn : Hid (Q w Wn) := Lib.hid (by rw [← hWn]; exact Q.setNew (HX.out.trans HQ5.out) (by show w.heap.size ≤ N; omega) _)
            have HB2n : Hid (UB Wn (N + 1) ⟨name, id, sec⟩) := Lib.hid (by rw [← hWn]; exact (HB2x.out.q HQ5.out).otherC (by omega) _)
            have HZn : Hid (RB Wn (N + 2) zeroR (.slice none 0 0)) := Lib.hid (by rw [← hWn]; exact (HZ.out.q HQ5.out).otherC (by omega) _)
            rw [hWn]
            have hszn : wx.heap.size ≤ Wn.heap.size := by rw [← hWn]; have := HQ5.out.size; simp [World.setCell]; exact this
            clear hWn c3 f3 HB15 HO5 HP5 HQ5
            go_upto_region 6 with (fail)
            obtain ⟨Wl, hWl⟩ : ∃ W, Wn.alloc (.cells (names3.map strV).toArray 9) = W := ⟨_, rfl⟩
            have hWlb : Wn.alloc (.cells #[.string ⟨#[104, 111, 115, 116]⟩, .string ⟨#[120, 45, 97, 109, 122, 45, 99, 111, 110, 116, 101, 110, 116, 45, 115, 104, 97, 50, 53, 54]⟩, .string ⟨#[120, 45, 97, 109, 122, 45, 100, 97, 116, 101]⟩] 9) = Wl := hWl
            have hql : Q Wn Wl := by rw [← hWl]; exact (Q.refl Wn).alloc _
            have HNM : Hid (NmAt Wl (some ⟨Wn.heap.size, 0, none⟩) 3 names3) := Lib.hid (by rw [← hWl]; exact NmAt.lit names3 Wn _)
            have HB1l := Lib.hid (HB1n.out.q hql)
            have HOl := Lib.hid (HOn.out.q hql)
            have HQl := Lib.hid (HQn.out.trans hql)
            have HB2l := Lib.hid (HB2n.out.q hql)
            have HZl := Lib.hid (HZn.out.q hql)
            obtain ⟨b0, b1, b2, b3, b4, b5⟩ := HB1l.out.c
            rw [hWlb]
            have HWL := Lib.hid hWl
            clear hWl hWlb hql HB1n HOn HQn HB2n HZn
            go_wp2_with fail
            unfold CanPost reqC at HC
            refine (HC.out A5 c5 _ Wl HOl.out.pa hc5 hcap5 HNM.out (HS.out.q HQl.out)).mono ?_
            clear b0 b1 b2 b3 b4 b5
            rcases q with _ | cq
            · rintro e wm ⟨⟨bf, rfl, hfa⟩, hqm⟩
              have HR : Hid (signQ ⟨m, tg, minor, fs, body, close⟩ ⟨name, id, sec⟩ now rg = none) := Lib.hid HSQ.out
              have HXm := Lib.hid (HQl.out.trans hqm)
              have HZm := Lib.hid (HZl.out.q hqm)
              have HWy := Lib.hid (fun W (hq : Q wm W) => why_fault bf 1 0 W (hfa.q hq) (HS.out.q (HXm.out.trans hq)).et)
              clear hfa hqm HC HCL
              go_upto_region 8 with (fail)
              clear HX HZ wx HB1x HB2x HOl hNx hszn
              go_wp2_with fail
              refine (HWy.out _ (Q.refl _)).mono ?_
              rintro e wx ⟨rfl, hqy⟩
              have HX := Lib.hid (HXm.out.trans hqy)
              have HZ := Lib.hid (HZm.out.q hqy)
              clear hqy
              go_wp2_with (refine wpList_store_row rfl 24 _ _ rfl (N + 2) (reqV zeroR (.slice none 0 0)).toArray (by rfl) (by rfl) 24 _ HZ.out (infoReqS _ _) rfl (reqV_one _ _ _ _) ?_)
              have hz2 := HZ.out.row zeroR (.slice none 0 0)
              have hq2 : Q w (wx.setRow (N + 2) (reqV zeroR (.slice none 0 0)).toArray) := Q.setRow HX.out (by omega) _
              generalize wx.setRow (N + 2) (reqV zeroR (.slice none 0 0)).toArray = W9 at hz2 hq2 ⊢
              have HZ9 := Lib.hid hz2
              have HQ9 := Lib.hid hq2
              clear hz2 hq2
              go_wp2_with fail
              refine bodyPost_ret (v := .tuple #[.agg (reqV zeroR (.slice none 0 0)).toArray, .int .i64 1]) ?_ rfl (by unfold SignPost; rw [HR.out]; exact ⟨rfl, HQ9.out⟩)
              exact results_cell_row2 rfl _ _ (N + 2) 24 _ (0, 0) _ _ (by rfl) (by rfl) HZ9.out Tryz.underlying24 rfl (infoReqS _ _)
            · rintro e wm ⟨rfl, hqm⟩
              have HQm := Lib.hid (HQl.out.trans hqm)
              have HOm := Lib.hid (HOl.out.q hqm)
              have HNMm := Lib.hid (HNM.out.q hqm)
              have HB1m := Lib.hid (HB1l.out.q hqm)
              have HB2m := Lib.hid (HB2l.out.q hqm)
              have HZm := Lib.hid (HZl.out.q hqm)
              have hcl := HCL.out cq rfl
              have hszm : wx.heap.size ≤ wm.heap.size := by
                have h1 := hqm.size
                rw [← HWL.out] at h1
                simp at h1; omega
              clear hqm HC HCL
              go_upto_region 9 with (fail)
              have HSc := Lib.hid (fun W => (scope_any st rg W (by omega) hRgl).mono fun e w' (h : _ ∧ w' = W) => (⟨h.1, by rw [h.2]; exact Q.refl _⟩ : _ ∧ Q W w'))
              have HJo := Lib.hid (fun W (h : NmAt W (some ⟨Wn.heap.size, 0, none⟩) 3 names3) => join_nm _ 3 3 names3 [59] W h (by omega) (by decide) (by decide))
              have HSg := Lib.hid (fun W => signature_any sec st rg cq W (by have := HOK.out.sec; simp only at this; omega) (by omega) hRgl hcl)
              have hscl := scopeL_len st rg
              have hjl : (Lib.join names3 [59]).length ≤ 100 := by decide
              have hsgl : (sigL sec st rg cq).length = 64 := by unfold sigL; rw [hexL_length, mac_length]
              obtain ⟨VV, hVV⟩ : ∃ V, valueL ⟨name, id, sec⟩ st rg cq = V := ⟨_, rfl⟩
              have HVW := Lib.hid hVV
              unfold valueL at hVV
              simp only at hVV
              generalize sigL sec st rg cq = SG at HSg hsgl hVV
              generalize Lib.join names3 [59] = J3 at HJo hjl hVV
              generalize scopeL st rg = SC at HSc hscl hVV
              simp only [credL, shdL, sgnL, List.append_assoc, List.cons_append, List.nil_append] at hVV
              have hVl : VV.length ≤ 30000000 := by
                rw [← hVV]; simp only [List.length_cons, List.length_append]; have := HOK.out.id; have := HOK.out.rg; simp only at *; omega
              have HVV := Lib.hid hVV
              clear hVV
              have ku1 : ∀ m : QW wm, m.val.cell? ⟨N + 1, 1, none⟩ = some (.string ⟨id.toArray⟩) := fun m => m.cell HB2m.out.c.2.1
              have ku2 : ∀ m : QW wm, m.val.cell? ⟨N + 1, 2, none⟩ = some (.string ⟨sec.toArray⟩) := fun m => m.cell HB2m.out.c.2.2
              refine wp_region_q (by kernel_rfl) (by kernel_rfl) ?_
              (repeat (go_big_quiet_step (first | (go_at_call 32; exact calls_q (HSc.out _)) | (go_at_call 33; exact calls_q (HJo.out _ (HNMm.out.q (QW.le _)))) | (go_at_call 34; exact calls_q (HSg.out _)))))
              refine wpQuiet_nil ?_
              rintro wy ⟨my, hmy⟩
              have hqy : Q wm wy := by rw [hmy]; exact my.le
              clear my hmy ku1 ku2
              rw [HVV.out]
              have HQy := Lib.hid (HQm.out.trans hqy)
              have HOy := Lib.hid (HOm.out.q hqy)
              have HB1y := Lib.hid (HB1m.out.q hqy)
              have HZy := Lib.hid (HZm.out.q hqy)
              have hszy : wx.heap.size ≤ wy.heap.size := Nat.le_trans hszm hqy.size
              have hfy := HFSn.out
              have hFb : (FSq.length + 1) * 32 ≤ 140737488355328 := by omega
              have c3 := HB1y.out.c.2.2.2.1
              clear hqy HQm HOm HB1m HB2m HZm HNMm HJo HSg HSc HVV hfy hscl hjl hsgl
              go_upto_region 10 with (fail)
              iterate 16 go_step
              have HPR : Hid (PairsAt (wy.alloc (.cells (cellsU [(authL, VV)]).toArray 37)) (some ⟨wy.heap.size, 0, none⟩) 1 [(authL, VV)]) := Lib.hid (PairsAt.lit _ _ rfl)
              refine wpList_append_us rfl (.tmp 101) (.tmp 104) rfl wx (wy.alloc (.cells (cellsU [(authL, VV)]).toArray 37)) (.slice A5 FSq.length c5) FSq [(authL, VV)] (by rfl) (HOy.out.q ((Q.refl wy).alloc _)) ⟨wy.heap.size, 0, none⟩ 1 1 rfl (by rfl) HPR.out.rowU (Nat.le_trans hszy ((Q.refl wy).alloc _).size) hFb ?_
              intro v6 w6 ho6 hg6
              have HQ6 : Hid (Q w w6) := Lib.hid (gb_q_own hg6 (HQy.out.alloc _) (fun k hk => by have := (HOy.out.block hk).1; omega))
              have HB16 : Hid (RB w6 N ⟨m, tg, minor, fs, body, close⟩ (.slice A5 FSq.length c5)) := Lib.hid ((HB1y.out.q ((Q.refl wy).alloc _)).gb hg6 (fun e => by have := (HOy.out.block e).1; omega))
              have HZ6 : Hid (RB w6 (N + 2) zeroR (.slice none 0 0)) := Lib.hid ((HZy.out.q ((Q.refl wy).alloc _)).gb hg6 (fun e => by have := (HOy.out.block e).1; omega))
              obtain ⟨A6, c6, rfl, hc6, hp6⟩ := ho6.pairs
              have e6 : (FSq ++ [(authL, VV)]).length = FSq.length + 1 := by simp
              rw [e6] at ho6 ⊢
              have HO6 := Lib.hid ho6
              have c3 := HB16.out.c.2.2.2.1
              have f3 := HB16.out.f 3
              clear ho6 hp6 hg6 HOy HQy HPR HB1y HZy hFb e6
              iterate 6 go_step
              go_upto_region 11 with (fail)
              obtain ⟨W7, hW7⟩ : ∃ W, w6.setCell ⟨N, 3, none⟩ (.slice A6 (FSq.length + 1) c6) = W := ⟨_, rfl⟩
              have HB17 : Hid (RB W7 N ⟨m, tg, minor, fs, body, close⟩ (.slice A6 (FSq.length + 1) c6)) := Lib.hid (by rw [← hW7]; exact HB16.out.set _)
              have HO7 : Hid (OwnU wx W7 (.slice A6 (FSq.length + 1) c6) (FSq ++ [(authL, VV)])) := Lib.hid (by rw [← hW7]; exact HO6.out.setC N 3 _ (by omega))
              have HQ7 : Hid (Q w W7) := Lib.hid (by rw [← hW7]; exact Q.setNew HQ6.out (by show w.heap.size ≤ N; omega) _)
              have HZ7 : Hid (RB W7 (N + 2) zeroR (.slice none 0 0)) := Lib.hid (by rw [← hW7]; exact HZ6.out.otherC (by omega) _)
              rw [hW7]
              clear hW7 HB16 HO6 HQ6 HZ6 c3 f3
              obtain ⟨b0, b1, b2, b3, b4, b5⟩ := HB17.out.c
              simp only at b0 b1 b2 b4 b5
              iterate 4 go_step
              refine wpList_store_row rfl 24 _ _ rfl (N + 2) (reqV ⟨m, tg, minor, fs, body, close⟩ (.slice A6 (FSq.length + 1) c6)).toArray (by rfl) (by rfl) 24 _ HZ7.out (infoReqS _ _) rfl (reqV_one _ _ _ _) ?_
              have hz2 := HZ7.out.row ⟨m, tg, minor, FSq ++ [(authL, VV)], body, close⟩ (.slice A6 (FSq.length + 1) c6)
              have hq2 : Q w (W7.setRow (N + 2) (reqV ⟨m, tg, minor, fs, body, close⟩ (.slice A6 (FSq.length + 1) c6)).toArray) := Q.setRow HQ7.out (by omega) _
              have ho2 : OwnU w (W7.setRow (N + 2) (reqV ⟨m, tg, minor, fs, body, close⟩ (.slice A6 (FSq.length + 1) c6)).toArray) (.slice A6 (FSq.length + 1) c6) (FSq ++ [(authL, VV)]) := (HO7.out.setR (N + 2) _ (by omega)).low (by omega)
              have er : reqV ⟨m, tg, minor, FSq ++ [(authL, VV)], body, close⟩ (.slice A6 (FSq.length + 1) c6) = reqV ⟨m, tg, minor, fs, body, close⟩ (.slice A6 (FSq.length + 1) c6) := rfl
              rw [er] at hz2
              generalize W7.setRow (N + 2) (reqV ⟨m, tg, minor, fs, body, close⟩ (.slice A6 (FSq.length + 1) c6)).toArray = W9 at hz2 hq2 ho2 ⊢
              have HZ9 := Lib.hid hz2
              have HQ9 := Lib.hid hq2
              have HO9 := Lib.hid ho2
              clear hz2 hq2 ho2 b0 b1 b2 b3 b4 b5
              go_wp2_with fail
              refine bodyPost_ret (v := .tuple #[.agg (reqV ⟨m, tg, minor, FSq ++ [(authL, VV)], body, close⟩ (.slice A6 (FSq.length + 1) c6)).toArray, .int .i64 0]) ?_ rfl (by unfold SignPost; rw [HSQ.out, Option.map_some, HVW.out]; exact ⟨_, rfl, HO9.out, HQ9.out⟩)
              exact results_cell_row2 rfl _ _ (N + 2) 24 _ (0, 0) _ _ (by rfl) (by rfl) HZ9.out Tryz.underlying24 rfl (infoReqS _ _)
          · have HR := Lib.hid (HRef.out (fun h => hms h.2.2.2.2))
            have gM : ((((manyL fs [104, 111, 115, 116] : Nat) : Int)) != 1) = false := by
              have : manyL fs [104, 111, 115, 116] = 1 := hmh
              rw [this]; rfl
            unfold datedL bodySumL authL at hms
            unfold datedL at bd
            unfold bodySumL at bb
            unfold authL at ba
            unfold hostL at bh
            obtain ⟨xd, hxd⟩ : ∃ x, manyL fs [120, 45, 97, 109, 122, 45, 100, 97, 116, 101] = x := ⟨_, rfl⟩
            have GS : decide ((0 : Int) < (manyL fs [120, 45, 97, 109, 122, 45, 100, 97, 116, 101] : Int) + (manyL fs [120, 45, 97, 109, 122, 45, 99, 111, 110, 116, 101, 110, 116, 45, 115, 104, 97, 50, 53, 54] : Int) + (manyL fs [97, 117, 116, 104, 111, 114, 105, 122, 97, 116, 105, 111, 110] : Int)) = true := by simp only [decide_eq_true_eq]; omega
            clear hmh hok HOK ht hst hstl hms hxd
            go_enter Tryz.func10, Tryz.ntmps10
            go_wp2_with fail
            refine (HS0.out _ HQ3.out).mono ?_
            rintro e w4 ⟨rfl, hq4⟩
            have HQ4 := Lib.hid (HQ3.out.trans hq4)
            have HB34 := Lib.hid (HB3.out.q hq4)
            have HB24 := Lib.hid (HB2.out.q hq4)
            have HB14 := Lib.hid (HB1.out.q hq4)
            have kc3 : ∀ m : QW w4, m.val.cell? ⟨N, 3, none⟩ = some (.slice A n c) := fun m => m.cell HB14.out.c.2.2.2.1
            have ku1 : ∀ m : QW w4, m.val.cell? ⟨N + 1, 1, none⟩ = some (.string ⟨id.toArray⟩) := fun m => m.cell HB24.out.c.2.1
            clear e1 e2 e3 hN hN1 hN2 hq4
            go_upto_region 2 with (fail)
            refine wp_region_q (by kernel_rfl) (by kernel_rfl) ?_
            (repeat (go_big_quiet_step (first | (go_at_call 25; exact calls_q (HWd.out _ _ (by assumption))) | (go_at_call 26; exact calls_q (HMn.out _ _ (by decide) (by decide) (Q.trans (HQ4.out) (QW.le _)))))))
            refine wpQuiet_nil ?_
            rintro wx ⟨mx, hmx⟩
            have hqx : Q w4 wx := by rw [hmx]; exact mx.le
            have HX := Lib.hid (HQ4.out.trans hqx)
            have HZ := Lib.hid (HB34.out.q hqx)
            clear hmx mx hqx kc3 ku1
            go_upto_region 3 with (fail)
            iterate 4 go_step
            refine wpList_store_row rfl 24 _ _ rfl (N + 2) (reqV zeroR (.slice none 0 0)).toArray (by rfl) (by rfl) 24 _ HZ.out (infoReqS _ _) rfl (reqV_one _ _ _ _) ?_
            have hz2 := HZ.out.row zeroR (.slice none 0 0)
            have hq2 : Q w (wx.setRow (N + 2) (reqV zeroR (.slice none 0 0)).toArray) := Q.setRow HX.out (by omega) _
            generalize wx.setRow (N + 2) (reqV zeroR (.slice none 0 0)).toArray = W9 at hz2 hq2 ⊢
            have HZ9 := Lib.hid hz2
            have HQ9 := Lib.hid hq2
            clear hz2 hq2
            go_wp2_with fail
            refine bodyPost_ret (v := .tuple #[.agg (reqV zeroR (.slice none 0 0)).toArray, .int .i64 1]) ?_ rfl (by unfold SignPost; rw [HR.out]; exact ⟨rfl, HQ9.out⟩)
            exact results_cell_row2 rfl _ _ (N + 2) 24 _ (0, 0) _ _ (by rfl) (by rfl) HZ9.out Tryz.underlying24 rfl (infoReqS _ _)

        · have HR := Lib.hid (HRef.out (fun h => hmh h.2.2.2.1))
          have gM : ((((manyL fs [104, 111, 115, 116] : Nat) : Int)) != 1) = true := by
            simp only [bne_iff_ne, ne_eq]; exact_mod_cast hmh
          clear hmh hok HOK ht hst hstl bh bd bb ba
          go_enter Tryz.func10, Tryz.ntmps10
          go_wp2_with fail
          refine (HS0.out _ HQ3.out).mono ?_
          rintro e w4 ⟨rfl, hq4⟩
          have HQ4 := Lib.hid (HQ3.out.trans hq4)
          have HB34 := Lib.hid (HB3.out.q hq4)
          have HB24 := Lib.hid (HB2.out.q hq4)
          have HB14 := Lib.hid (HB1.out.q hq4)
          have kc3 : ∀ m : QW w4, m.val.cell? ⟨N, 3, none⟩ = some (.slice A n c) := fun m => m.cell HB14.out.c.2.2.2.1
          have ku1 : ∀ m : QW w4, m.val.cell? ⟨N + 1, 1, none⟩ = some (.string ⟨id.toArray⟩) := fun m => m.cell HB24.out.c.2.1
          clear e1 e2 e3 hN hN1 hN2 hq4
          go_upto_region 2 with (fail)
          refine wp_region_q (by kernel_rfl) (by kernel_rfl) ?_
          (repeat (go_big_quiet_step (first | (go_at_call 25; exact calls_q (HWd.out _ _ (by assumption))) | (go_at_call 26; exact calls_q (HMn.out _ _ (by decide) (by decide) (Q.trans (HQ4.out) (QW.le _)))))))
          refine wpQuiet_nil ?_
          rintro wx ⟨mx, hmx⟩
          have hqx : Q w4 wx := by rw [hmx]; exact mx.le
          have HX := Lib.hid (HQ4.out.trans hqx)
          have HZ := Lib.hid (HB34.out.q hqx)
          clear hmx mx hqx kc3 ku1
          go_upto_region 3 with (fail)
          iterate 4 go_step
          refine wpList_store_row rfl 24 _ _ rfl (N + 2) (reqV zeroR (.slice none 0 0)).toArray (by rfl) (by rfl) 24 _ HZ.out (infoReqS _ _) rfl (reqV_one _ _ _ _) ?_
          have hz2 := HZ.out.row zeroR (.slice none 0 0)
          have hq2 : Q w (wx.setRow (N + 2) (reqV zeroR (.slice none 0 0)).toArray) := Q.setRow HX.out (by omega) _
          generalize wx.setRow (N + 2) (reqV zeroR (.slice none 0 0)).toArray = W9 at hz2 hq2 ⊢
          have HZ9 := Lib.hid hz2
          have HQ9 := Lib.hid hq2
          clear hz2 hq2
          go_wp2_with fail
          refine bodyPost_ret (v := .tuple #[.agg (reqV zeroR (.slice none 0 0)).toArray, .int .i64 1]) ?_ rfl (by unfold SignPost; rw [HR.out]; exact ⟨rfl, HQ9.out⟩)
          exact results_cell_row2 rfl _ _ (N + 2) 24 _ (0, 0) _ _ (by rfl) (by rfl) HZ9.out Tryz.underlying24 rfl (infoReqS _ _)

      · have HR := Lib.hid (HRef.out (fun h => gR h.2.2.1))
        have gR : wordL rg = false := by simpa using gR
        clear hok HOK ht hst hstl
        go_enter Tryz.func10, Tryz.ntmps10
        go_wp2_with fail
        refine (HS0.out _ HQ3.out).mono ?_
        rintro e w4 ⟨rfl, hq4⟩
        have HQ4 := Lib.hid (HQ3.out.trans hq4)
        have HB34 := Lib.hid (HB3.out.q hq4)
        have HB24 := Lib.hid (HB2.out.q hq4)
        have HB14 := Lib.hid (HB1.out.q hq4)
        have kc3 : ∀ m : QW w4, m.val.cell? ⟨N, 3, none⟩ = some (.slice A n c) := fun m => m.cell HB14.out.c.2.2.2.1
        have ku1 : ∀ m : QW w4, m.val.cell? ⟨N + 1, 1, none⟩ = some (.string ⟨id.toArray⟩) := fun m => m.cell HB24.out.c.2.1
        clear e1 e2 e3 hN hN1 hN2 hq4
        go_upto_region 2 with (fail)
        refine wp_region_q (by kernel_rfl) (by kernel_rfl) ?_
        (repeat (go_big_quiet_step (first | (go_at_call 25; exact calls_q (HWd.out _ _ (by assumption))) | (go_at_call 26; exact calls_q (HMn.out _ _ (by decide) (by decide) (Q.trans (HQ4.out) (QW.le _)))))))
        refine wpQuiet_nil ?_
        rintro wx ⟨mx, hmx⟩
        have hqx : Q w4 wx := by rw [hmx]; exact mx.le
        have HX := Lib.hid (HQ4.out.trans hqx)
        have HZ := Lib.hid (HB34.out.q hqx)
        clear hmx mx hqx kc3 ku1
        go_upto_region 3 with (fail)
        iterate 4 go_step
        refine wpList_store_row rfl 24 _ _ rfl (N + 2) (reqV zeroR (.slice none 0 0)).toArray (by rfl) (by rfl) 24 _ HZ.out (infoReqS _ _) rfl (reqV_one _ _ _ _) ?_
        have hz2 := HZ.out.row zeroR (.slice none 0 0)
        have hq2 : Q w (wx.setRow (N + 2) (reqV zeroR (.slice none 0 0)).toArray) := Q.setRow HX.out (by omega) _
        generalize wx.setRow (N + 2) (reqV zeroR (.slice none 0 0)).toArray = W9 at hz2 hq2 ⊢
        have HZ9 := Lib.hid hz2
        have HQ9 := Lib.hid hq2
        clear hz2 hq2
        go_wp2_with fail
        refine bodyPost_ret (v := .tuple #[.agg (reqV zeroR (.slice none 0 0)).toArray, .int .i64 1]) ?_ rfl (by unfold SignPost; rw [HR.out]; exact ⟨rfl, HQ9.out⟩)
        exact results_cell_row2 rfl _ _ (N + 2) 24 _ (0, 0) _ _ (by rfl) (by rfl) HZ9.out Tryz.underlying24 rfl (infoReqS _ _)

    · have HR := Lib.hid (HRef.out (fun h => gI h.2.1))
      have gI : wordL id = false := by simpa using gI
      clear hok HOK ht hst hstl
      go_enter Tryz.func10, Tryz.ntmps10
      go_wp2_with fail
      refine (HS0.out _ HQ3.out).mono ?_
      rintro e w4 ⟨rfl, hq4⟩
      have HQ4 := Lib.hid (HQ3.out.trans hq4)
      have HB34 := Lib.hid (HB3.out.q hq4)
      have HB24 := Lib.hid (HB2.out.q hq4)
      have HB14 := Lib.hid (HB1.out.q hq4)
      have kc3 : ∀ m : QW w4, m.val.cell? ⟨N, 3, none⟩ = some (.slice A n c) := fun m => m.cell HB14.out.c.2.2.2.1
      have ku1 : ∀ m : QW w4, m.val.cell? ⟨N + 1, 1, none⟩ = some (.string ⟨id.toArray⟩) := fun m => m.cell HB24.out.c.2.1
      clear e1 e2 e3 hN hN1 hN2 hq4
      go_upto_region 2 with (fail)
      refine wp_region_q (by kernel_rfl) (by kernel_rfl) ?_
      (repeat (go_big_quiet_step (first | (go_at_call 25; exact calls_q (HWd.out _ _ (by assumption))) | (go_at_call 26; exact calls_q (HMn.out _ _ (by decide) (by decide) (Q.trans (HQ4.out) (QW.le _)))))))
      refine wpQuiet_nil ?_
      rintro wx ⟨mx, hmx⟩
      have hqx : Q w4 wx := by rw [hmx]; exact mx.le
      have HX := Lib.hid (HQ4.out.trans hqx)
      have HZ := Lib.hid (HB34.out.q hqx)
      clear hmx mx hqx kc3 ku1
      go_upto_region 3 with (fail)
      iterate 4 go_step
      refine wpList_store_row rfl 24 _ _ rfl (N + 2) (reqV zeroR (.slice none 0 0)).toArray (by rfl) (by rfl) 24 _ HZ.out (infoReqS _ _) rfl (reqV_one _ _ _ _) ?_
      have hz2 := HZ.out.row zeroR (.slice none 0 0)
      have hq2 : Q w (wx.setRow (N + 2) (reqV zeroR (.slice none 0 0)).toArray) := Q.setRow HX.out (by omega) _
      generalize wx.setRow (N + 2) (reqV zeroR (.slice none 0 0)).toArray = W9 at hz2 hq2 ⊢
      have HZ9 := Lib.hid hz2
      have HQ9 := Lib.hid hq2
      clear hz2 hq2
      go_wp2_with fail
      refine bodyPost_ret (v := .tuple #[.agg (reqV zeroR (.slice none 0 0)).toArray, .int .i64 1]) ?_ rfl (by unfold SignPost; rw [HR.out]; exact ⟨rfl, HQ9.out⟩)
      exact results_cell_row2 rfl _ _ (N + 2) 24 _ (0, 0) _ _ (by rfl) (by rfl) HZ9.out Tryz.underlying24 rfl (infoReqS _ _)

  · have HS0 := Lib.hid (fun W (_ : Q w W) => Stamp_no' now W (by unfold TimeOk at ht; omega))
    have HR := Lib.hid (HRef.out (fun h => ht h.1))
    clear ht HOK hok
    go_enter Tryz.func10, Tryz.ntmps10
    go_wp2_with fail
    refine (HS0.out _ HQ3.out).mono ?_
    rintro e w4 ⟨rfl, hq4⟩
    have HQ4 := Lib.hid (HQ3.out.trans hq4)
    have HB34 := Lib.hid (HB3.out.q hq4)
    have HB24 := Lib.hid (HB2.out.q hq4)
    have HB14 := Lib.hid (HB1.out.q hq4)
    have kc3 : ∀ m : QW w4, m.val.cell? ⟨N, 3, none⟩ = some (.slice A n c) := fun m => m.cell HB14.out.c.2.2.2.1
    have ku1 : ∀ m : QW w4, m.val.cell? ⟨N + 1, 1, none⟩ = some (.string ⟨id.toArray⟩) := fun m => m.cell HB24.out.c.2.1
    clear e1 e2 e3 hN hN1 hN2 hq4
    go_upto_region 2 with (fail)
    refine wp_region_q (by kernel_rfl) (by kernel_rfl) ?_
    (repeat (go_big_quiet_step (first | (go_at_call 25; exact calls_q (HWd.out _ _ (by assumption))) | (go_at_call 26; exact calls_q (HMn.out _ _ (by decide) (by decide) (Q.trans (HQ4.out) (QW.le _)))))))
    refine wpQuiet_nil ?_
    rintro wx ⟨mx, hmx⟩
    have hqx : Q w4 wx := by rw [hmx]; exact mx.le
    have HX := Lib.hid (HQ4.out.trans hqx)
    have HZ := Lib.hid (HB34.out.q hqx)
    clear hmx mx hqx kc3 ku1
    go_upto_region 3 with (fail)
    iterate 4 go_step
    refine wpList_store_row rfl 24 _ _ rfl (N + 2) (reqV zeroR (.slice none 0 0)).toArray (by rfl) (by rfl) 24 _ HZ.out (infoReqS _ _) rfl (reqV_one _ _ _ _) ?_
    have hz2 := HZ.out.row zeroR (.slice none 0 0)
    have hq2 : Q w (wx.setRow (N + 2) (reqV zeroR (.slice none 0 0)).toArray) := Q.setRow HX.out (by omega) _
    generalize wx.setRow (N + 2) (reqV zeroR (.slice none 0 0)).toArray = W9 at hz2 hq2 ⊢
    have HZ9 := Lib.hid hz2
    have HQ9 := Lib.hid hq2
    clear hz2 hq2
    go_wp2_with fail
    refine bodyPost_ret (v := .tuple #[.agg (reqV zeroR (.slice none 0 0)).toArray, .int .i64 1]) ?_ rfl (by unfold SignPost; rw [HR.out]; exact ⟨rfl, HQ9.out⟩)
    exact results_cell_row2 rfl _ _ (N + 2) 24 _ (0, 0) _ _ (by rfl) (by rfl) HZ9.out Tryz.underlying24 rfl (infoReqS _ _)

end Go.Proofs.YtmmoenbmgcplkaaGreatDoor
/- sign.cutter. -/
set_option linter.unusedVariables false
set_option linter.unusedSimpArgs false
namespace Go.Proofs.YtmmoenbmgcplkaaGreatDoor
open Go Go.RowKit
/-- A cutter in a block. -/
def CB (w : World) (b : Nat) (s : List UInt8) (ok : Bool) : Prop := w.heap[b]? = some (.cells #[.string ⟨s.toArray⟩, .bool ok] 180 (0, 0))
theorem CB.q {w w' : World} {b : Nat} {s : List UInt8} {ok : Bool} (h : CB w b s ok) (hq : Q w w') : CB w' b s ok := hq.block h
theorem CB.x {w w' : World} {b : Nat} {s : List UInt8} {ok : Bool} {S : List Nat} (h : CB w b s ok) (hq : GX S w w') (hb : b ∉ S) : CB w' b s ok := hq.heap hb h
theorem CB.c0 {w : World} {b : Nat} {s : List UInt8} {ok : Bool} (h : CB w b s ok) : w.cell? ⟨b, 0, none⟩ = some (.string ⟨s.toArray⟩) := by rw [cell_of_row _ _ _ _ _ _ h]; rfl
theorem CB.c1 {w : World} {b : Nat} {s : List UInt8} {ok : Bool} (h : CB w b s ok) : w.cell? ⟨b, 1, none⟩ = some (.bool ok) := by rw [cell_of_row _ _ _ _ _ _ h]; rfl
theorem CB.f {w : World} {b : Nat} {s : List UInt8} {ok : Bool} (h : CB w b s ok) (i : Nat) : w.frozen? ⟨b, i, none⟩ = false := frozen_of_row w b i _ _ h
theorem CB.lt {w : World} {b : Nat} {s : List UInt8} {ok : Bool} (h : CB w b s ok) : b < w.heap.size := lt_of_heap h
theorem CB.set0 {w : World} {b : Nat} {s : List UInt8} {ok : Bool} (h : CB w b s ok) (x : List UInt8) : CB (w.setCell ⟨b, 0, none⟩ (.string ⟨x.toArray⟩)) b x ok := by
  unfold CB; rw [heap_setCell_any w b 0 _ _ _ _ h]; rfl
theorem CB.set1 {w : World} {b : Nat} {s : List UInt8} {ok : Bool} (h : CB w b s ok) (x : Bool) : CB (w.setCell ⟨b, 1, none⟩ (.bool x)) b s x := by
  unfold CB; rw [heap_setCell_any w b 1 _ _ _ _ h]; rfl
def headS (h s : List UInt8) : List UInt8 := Lib.trimPrefix (Lib.trimLeftB s 32) h
def headB (h s : List UInt8) : Bool := Lib.hasPrefix (Lib.trimLeftB s 32) h
set_option maxRecDepth 100000 in
set_option maxHeartbeats 2000000 in
theorem head_any (b : Nat) (s h : List UInt8) (ok : Bool) (w : World) (hb : CB w b s ok) :
    Calls Tryz.prog 128 #[.pointer (some ⟨b, 0, none⟩), .string ⟨h.toArray⟩] w fun e w' => e = .returned (.tuple #[]) ∧ CB w' b (headS h s) (ok && headB h s) ∧ GX [b] w w' := by
  have HB := Lib.hid hb
  have c0 := hb.c0
  have c1 := hb.c1
  have f0 := hb.f 0
  have f1 := (hb.set0 (headS h s)).f 1
  have d1 := (hb.set0 (headS h s)).c1
  have HT := Lib.hid (fun W => Tryz.strings_TrimLeft_one ⟨s.toArray⟩ 32 (by decide) W)
  have HC := Lib.hid (fun W => Tryz.strings_CutPrefix ⟨(Lib.trimLeftB s 32).toArray⟩ ⟨h.toArray⟩ W)
  simp only [List.toList_toArray] at HT HC
  have HR : Hid (headS h s = Lib.trimPrefix (Lib.trimLeftB s 32) h ∧ headB h s = Lib.hasPrefix (Lib.trimLeftB s 32) h) := Lib.hid ⟨rfl, rfl⟩
  rw [← HR.out.1, ← HR.out.2] at HC
  generalize headS h s = R at HC HR f1 d1 ⊢
  generalize headB h s = B at HC HR ⊢
  generalize Lib.trimLeftB s 32 = TT at HT HC HR
  clear hb HR
  have hg : GX [b] w ((w.setCell ⟨b, 0, none⟩ (.string ⟨R.toArray⟩)).setCell ⟨b, 1, none⟩ (.bool (ok && B))) := ((GX.refl _ w).set (by simp) _ _).set (by simp) _ _
  have hc := (HB.out.set0 R).set1 (ok && B)
  have HG := Lib.hid hg
  have HC2 := Lib.hid hc
  clear hg hc
  rcases ok with _ | _
  · simp only [Bool.false_and] at HG HC2 ⊢
    go_enter Tryz.func128, Tryz.ntmps128
    go_wp2_with fail
    refine (HT.out _).mono ?_
    rintro e w1 ⟨rfl, rfl⟩
    go_wp2_with fail
    refine (HC.out _).mono ?_
    rintro e w1 ⟨rfl, rfl⟩
    go_wp2_with fail
    go_end0
    exact ⟨rfl, HC2.out, HG.out⟩
  · simp only [Bool.true_and] at HG HC2 ⊢
    go_enter Tryz.func128, Tryz.ntmps128
    go_wp2_with fail
    refine (HT.out _).mono ?_
    rintro e w1 ⟨rfl, rfl⟩
    go_wp2_with fail
    refine (HC.out _).mono ?_
    rintro e w1 ⟨rfl, rfl⟩
    go_wp2_with fail
    go_end0
    exact ⟨rfl, HC2.out, HG.out⟩
def uptoP (c : UInt8) (s : List UInt8) : List UInt8 := (cutB c s).1
def uptoS (c : UInt8) (s : List UInt8) : List UInt8 := (cutB c s).2.1
def uptoB (c : UInt8) (s : List UInt8) : Bool := (cutB c s).2.2
set_option maxRecDepth 100000 in
set_option maxHeartbeats 2000000 in
theorem upto_any (b : Nat) (s : List UInt8) (c : UInt8) (ok : Bool) (w : World) (hb : CB w b s ok) (hM : MaxL w) (hs : s.length ≤ 100000000) :
    Calls Tryz.prog 129 #[.pointer (some ⟨b, 0, none⟩), .string ⟨#[c]⟩] w fun e w' => e = .returned (.string ⟨(uptoP c s).toArray⟩) ∧ CB w' b (uptoS c s) (ok && uptoB c s) ∧ GX [b] w w' := by
  have HB := Lib.hid hb
  have c0 := hb.c0
  have HT := Lib.hid (cut_any s c w hM (by omega))
  have HR : Hid (uptoP c s = (cutB c s).1 ∧ uptoS c s = (cutB c s).2.1 ∧ uptoB c s = (cutB c s).2.2) := Lib.hid ⟨rfl, rfl, rfl⟩
  rw [← HR.out.1, ← HR.out.2.1, ← HR.out.2.2] at HT
  generalize uptoP c s = PP at HT HR ⊢
  generalize uptoS c s = R at HT HR ⊢
  generalize uptoB c s = B at HT HR ⊢
  clear hb HR
  have HK : Hid (∀ w1, Q w w1 → CB ((w1.setCell ⟨b, 0, none⟩ (.string ⟨R.toArray⟩)).setCell ⟨b, 1, none⟩ (.bool (ok && B))) b R (ok && B) ∧ GX [b] w ((w1.setCell ⟨b, 0, none⟩ (.string ⟨R.toArray⟩)).setCell ⟨b, 1, none⟩ (.bool (ok && B)))) := Lib.hid (fun w1 hq =>
    ⟨((HB.out.q hq).set0 R).set1 (ok && B), ((GX.q hq).set (by simp) _ _).set (by simp) _ _⟩)
  rcases ok with _ | _
  · simp only [Bool.false_and] at HK ⊢
    go_enter Tryz.func129, Tryz.ntmps129
    go_wp2_with fail
    refine HT.out.mono ?_
    rintro e w1 ⟨rfl, hq1⟩
    have hb1 := HB.out.q hq1
    have HQ1 := Lib.hid hq1
    have d0 := hb1.c0
    have d1 := hb1.c1
    have f0 := hb1.f 0
    have f1 := (hb1.set0 R).f 1
    have g1 := (hb1.set0 R).c1
    clear hb1 hq1 c0
    go_wp2_with fail
    go_ret
    exact ⟨rfl, HK.out _ HQ1.out⟩
  · simp only [Bool.true_and] at HK ⊢
    go_enter Tryz.func129, Tryz.ntmps129
    go_wp2_with fail
    refine HT.out.mono ?_
    rintro e w1 ⟨rfl, hq1⟩
    have hb1 := HB.out.q hq1
    have HQ1 := Lib.hid hq1
    have d0 := hb1.c0
    have d1 := hb1.c1
    have f0 := hb1.f 0
    have f1 := (hb1.set0 R).f 1
    have g1 := (hb1.set0 R).c1
    clear hb1 hq1 c0
    go_wp2_with fail
    go_ret
    exact ⟨rfl, HK.out _ HQ1.out⟩
end Go.Proofs.YtmmoenbmgcplkaaGreatDoor
/- sign.read: what it reads, and its boxes. -/
set_option linter.unusedVariables false
set_option linter.unusedSimpArgs false
namespace Go.Proofs.YtmmoenbmgcplkaaGreatDoor
open Go Go.RowKit
structure ClaimD where
  id : List UInt8
  day : List UInt8
  region : List UInt8
  sig : List UInt8
  names : List (List UInt8)
def methodS : List UInt8 := [65, 87, 83, 52, 45, 72, 77, 65, 67, 45, 83, 72, 65, 50, 53, 54, 32]
def credW : List UInt8 := [67, 114, 101, 100, 101, 110, 116, 105, 97, 108, 61]
def shdW : List UInt8 := [83, 105, 103, 110, 101, 100, 72, 101, 97, 100, 101, 114, 115, 61]
def sgnW : List UInt8 := [83, 105, 103, 110, 97, 116, 117, 114, 101, 61]
def s3L : List UInt8 := [115, 51, 47, 97, 119, 115, 52, 95, 114, 101, 113, 117, 101, 115, 116]
def tensW : List UInt8 := [48, 49, 50, 51, 52, 53, 54, 55, 56, 57]
def hexsW : List UInt8 := [48, 49, 50, 51, 52, 53, 54, 55, 56, 57, 97, 98, 99, 100, 101, 102]
def chrT (b : UInt8) : Bool := 48 ≤ b.toNat && b.toNat ≤ 57
def chrX (b : UInt8) : Bool := chrT b || (97 ≤ b.toNat && b.toNat ≤ 102)
theorem set_ten (b : UInt8) : tensW.contains b = chrT b := by
  have h : ∀ n : Fin 256, tensW.contains n.val.toUInt8 = chrT n.val.toUInt8 := by decide +kernel
  have := h ⟨b.toNat, b.toNat_lt⟩
  simpa using this
theorem set_hex (b : UInt8) : hexsW.contains b = chrX b := by
  have h : ∀ n : Fin 256, hexsW.contains n.val.toUInt8 = chrX n.val.toUInt8 := by decide +kernel
  have := h ⟨b.toNat, b.toNat_lt⟩
  simpa using this
structure RdD where
  ok : Bool
  okp : Bool
  rest : List UInt8
  c : ClaimD
def rdW (s : List UInt8) : RdD :=
  let s1 := headS methodL s
  let s2 := headS credW s1
  let part := uptoP 44 s2
  let s3 := uptoS 44 s2
  let p1 := uptoS 47 part
  let p2 := uptoS 47 p1
  let s4 := headS shdW s3
  let s5 := uptoS 44 s4
  ⟨((((Lib.hasPrefix s methodS && headB methodL s) && headB credW s1) && uptoB 44 s2) && headB shdW s3) && uptoB 44 s4 && headB sgnW s5,
   (true && uptoB 47 part) && uptoB 47 p1 && uptoB 47 p2, uptoS 47 p2,
   ⟨uptoP 47 part, uptoP 47 p1, uptoP 47 p2, headS sgnW s5, splitC 59 (uptoP 44 s4)⟩⟩
def rdOk (r : RdD) : Prop := r.ok = true ∧ r.okp = true ∧ r.rest = s3L ∧ wordL r.c.id = true ∧ r.c.day.length = 8 ∧ r.c.day.all chrT = true ∧ r.c.sig.length = 64 ∧ r.c.sig.all chrX = true
instance (r : RdD) : Decidable (rdOk r) := by unfold rdOk; infer_instance
def readQ (s : List UInt8) : Option ClaimD := if rdOk (rdW s) then some (rdW s).c else none
def claimV (c : ClaimD) (v : Value) : List Value := [.string ⟨c.id.toArray⟩, .string ⟨c.day.toArray⟩, .string ⟨c.region.toArray⟩, .string ⟨c.sig.toArray⟩, v]
def zeroC : ClaimD := ⟨[], [], [], [], []⟩
def LB (w : World) (b : Nat) (c : ClaimD) (v : Value) : Prop := w.heap[b]? = some (.cells (claimV c v).toArray 113 (0, 0))
theorem infoClm (c : ClaimD) (v : Value) : (Tryz.prog.info? 113).map (·.size) = some (claimV c v).toArray.size := by
  have : (Tryz.prog.info? 113).map (·.size) = some 5 := by kernel_rfl
  exact this
theorem LB.q {w w' : World} {b : Nat} {c : ClaimD} {v : Value} (h : LB w b c v) (hq : Q w w') : LB w' b c v := hq.block h
theorem LB.x {w w' : World} {b : Nat} {c : ClaimD} {v : Value} {S : List Nat} (h : LB w b c v) (hq : GX S w w') (hb : b ∉ S) : LB w' b c v := hq.heap hb h
theorem LB.lt {w : World} {b : Nat} {c : ClaimD} {v : Value} (h : LB w b c v) : b < w.heap.size := lt_of_heap h
theorem LB.f {w : World} {b : Nat} {c : ClaimD} {v : Value} (h : LB w b c v) (i : Nat) : w.frozen? ⟨b, i, none⟩ = false := frozen_of_row w b i _ _ h
theorem LB.c {w : World} {b : Nat} {c : ClaimD} {v : Value} (h : LB w b c v) :
    w.cell? ⟨b, 0, none⟩ = some (.string ⟨c.id.toArray⟩) ∧ w.cell? ⟨b, 1, none⟩ = some (.string ⟨c.day.toArray⟩) ∧ w.cell? ⟨b, 2, none⟩ = some (.string ⟨c.region.toArray⟩) ∧ w.cell? ⟨b, 3, none⟩ = some (.string ⟨c.sig.toArray⟩) ∧ w.cell? ⟨b, 4, none⟩ = some v := by
  refine ⟨?_, ?_, ?_, ?_, ?_⟩ <;> (rw [cell_of_row _ _ _ _ _ _ h]; rfl)
theorem LB.set0 {w : World} {b : Nat} {c : ClaimD} {v : Value} (h : LB w b c v) (x : List UInt8) : LB (w.setCell ⟨b, 0, none⟩ (.string ⟨x.toArray⟩)) b { c with id := x } v := by
  unfold LB; rw [heap_setCell_any w b 0 _ _ _ _ h]; rfl
theorem LB.set1 {w : World} {b : Nat} {c : ClaimD} {v : Value} (h : LB w b c v) (x : List UInt8) : LB (w.setCell ⟨b, 1, none⟩ (.string ⟨x.toArray⟩)) b { c with day := x } v := by
  unfold LB; rw [heap_setCell_any w b 1 _ _ _ _ h]; rfl
theorem LB.set2 {w : World} {b : Nat} {c : ClaimD} {v : Value} (h : LB w b c v) (x : List UInt8) : LB (w.setCell ⟨b, 2, none⟩ (.string ⟨x.toArray⟩)) b { c with region := x } v := by
  unfold LB; rw [heap_setCell_any w b 2 _ _ _ _ h]; rfl
theorem LB.set3 {w : World} {b : Nat} {c : ClaimD} {v : Value} (h : LB w b c v) (x : List UInt8) : LB (w.setCell ⟨b, 3, none⟩ (.string ⟨x.toArray⟩)) b { c with sig := x } v := by
  unfold LB; rw [heap_setCell_any w b 3 _ _ _ _ h]; rfl
theorem LB.set4 {w : World} {b : Nat} {c : ClaimD} {v : Value} (h : LB w b c v) (x : Value) : LB (w.setCell ⟨b, 4, none⟩ x) b c x := by
  unfold LB; rw [heap_setCell_any w b 4 _ _ _ _ h]; rfl
theorem LB.row {w : World} {b : Nat} {c : ClaimD} {v : Value} (h : LB w b c v) (c' : ClaimD) (v' : Value) : LB (w.setRow b (claimV c' v').toArray) b c' v' := setRow_heap w b _ _ _ _ h
theorem claimV_one (c : ClaimD) (A : Option Addr) (n k : Nat) : (claimV c (.slice A n k)).toArray.all (·.oneCell') = true := by
  simp [claimV, Value.oneCell']
/-- Where reading stands: result N, cutter N + 1, claim N + 2. -/
structure RdAt (w W : World) (N : Nat) (s : List UInt8) (ok : Bool) (c : ClaimD) (v : Value) : Prop where
  lo : w.heap.size ≤ N
  q : Q w W
  z : LB W N zeroC (.slice none 0 0)
  ct : CB W (N + 1) s ok
  x : LB W (N + 2) c v
theorem RdAt.mv {w W W' : World} {N : Nat} {s : List UInt8} {ok : Bool} {c : ClaimD} {v : Value} (h : RdAt w W N s ok c v) (hq : Q W W') : RdAt w W' N s ok c v :=
  ⟨h.lo, h.q.trans hq, h.z.q hq, h.ct.q hq, h.x.q hq⟩
theorem RdAt.cut {w W W' : World} {N : Nat} {s s' : List UInt8} {ok ok' : Bool} {c : ClaimD} {v : Value} (h : RdAt w W N s ok c v) (hg : GX [N + 1] W W') (hc : CB W' (N + 1) s' ok') : RdAt w W' N s' ok' c v :=
  ⟨h.lo, hg.toQ h.q (fun k hk => by have := h.lo; simp at hk; omega), h.z.x hg (by simp), hc, h.x.x hg (by simp)⟩
theorem RdAt.part {w W W' : World} {N M : Nat} {s : List UInt8} {ok : Bool} {c : ClaimD} {v : Value} (h : RdAt w W N s ok c v) (hg : GX [M] W W') (hM : N + 2 < M) : RdAt w W' N s ok c v :=
  ⟨h.lo, hg.toQ h.q (fun k hk => by have := h.lo; simp at hk; omega), h.z.x hg (by simp; omega), h.ct.x hg (by simp; omega), h.x.x hg (by simp; omega)⟩
theorem RdAt.put {w W : World} {N i : Nat} {s : List UInt8} {ok : Bool} {c c' : ClaimD} {v v' u : Value} (h : RdAt w W N s ok c v) (hx : LB (W.setCell ⟨N + 2, i, none⟩ u) (N + 2) c' v') : RdAt w (W.setCell ⟨N + 2, i, none⟩ u) N s ok c' v' := by
  have hg : GX [N + 2] W (W.setCell ⟨N + 2, i, none⟩ u) := (GX.refl _ W).set (by simp) _ _
  exact ⟨h.lo, hg.toQ h.q (fun k hk => by have := h.lo; simp at hk; omega), h.z.x hg (by simp), h.ct.x hg (by simp), hx⟩
theorem CB.putX {W : World} {M b i : Nat} {s : List UInt8} {ok : Bool} {u : Value} (h : CB W M s ok) (hb : M ≠ b) : CB (W.setCell ⟨b, i, none⟩ u) M s ok := by
  unfold CB; rw [heap_setCell_other W ⟨b, i, none⟩ M u hb]; exact h
theorem splitN_any (l : List UInt8) (c : UInt8) (w : World) (h : MaxL w) (hs : l.length < 4294967281) :
    Calls Tryz.prog 108 #[.string ⟨l.toArray⟩, .string ⟨#[c]⟩] w fun e w' => e = .returned (.slice (some ⟨w.heap.size, 0, none⟩) (splitC c l).length (splitC c l).length) ∧ NmAt w' (some ⟨w.heap.size, 0, none⟩) (splitC c l).length (splitC c l) ∧ Q w w' := by
  obtain ⟨m, hm⟩ := h
  refine (Tryz.strings_Split ⟨l.toArray⟩ ⟨#[c]⟩ m w hs hm (by show 1 ≤ 1; omega)).mono ?_
  rintro e w' ⟨rfl, rfl⟩
  have hk : Lib.countB ⟨l.toArray⟩ ⟨#[c]⟩ + 1 = (splitC c l).length := by rw [splitC_count]; exact congrArg (· + 1) (Lib.count_one c l)
  rw [splitB_one, hk]
  exact ⟨rfl, NmAt.lit _ _ _, (Q.refl w).alloc _⟩
theorem NmAt.gx {w w' : World} {A : Option Addr} {n : Nat} {ls : List (List UInt8)} {S : List Nat} (h : NmAt w A n ls) (hg : GX S w w') (hS : ∀ g off, A = some ⟨g, off, none⟩ → g ∉ S) : NmAt w' A n ls := by
  refine ⟨h.1, fun h0 => ?_⟩
  obtain ⟨g, off, e, hlt, hc⟩ := h.2 h0
  exact ⟨g, off, e, Nat.lt_of_lt_of_le hlt hg.size, fun i hi => by
    have := hg.block g hlt (hS g off e)
    have hcc := hc i hi
    unfold World.cell? at hcc ⊢
    rw [this]; exact hcc⟩
def ReadPost17 (q : Option ClaimD) (w : World) (e : Ending) (w' : World) : Prop :=
  (match q with
   | none => ∃ b, e = .returned (.tuple #[.agg (claimV zeroC (.slice none 0 0)).toArray, .iface 101 (.pointer (some ⟨b, 0, none⟩))]) ∧ FaultAt w' b 72 0
   | some c => ∃ A, e = .returned (.tuple #[.agg (claimV c (.slice A c.names.length c.names.length)).toArray, .nilIface]) ∧ NmAt w' A c.names.length c.names) ∧ Q w w'
end Go.Proofs.YtmmoenbmgcplkaaGreatDoor
