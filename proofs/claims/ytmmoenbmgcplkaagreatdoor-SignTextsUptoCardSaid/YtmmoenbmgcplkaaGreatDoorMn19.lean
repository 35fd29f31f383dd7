/- Texts of this proof, laid into one: Sjf, Sjh, UrW, OpS, Sji. -/
import Derived.Test.YtmmoenbmgcplkaaGreatDoorMn18
import Derived.Test.YtmmoenbmgcplkaaGreatDoorRows
import Derived.SizedLaws
import Derived.Deep.Slices
/- The chapter's examples, walked. -/
set_option linter.unusedVariables false
set_option linter.unusedSimpArgs false
namespace Go.Proofs.YtmmoenbmgcplkaaGreatDoor
open Go Go.RowKit
theorem heavy_app (ps qs : List PairD) : heavy (ps ++ qs) = heavy ps + heavy qs := by unfold heavy; rw [List.map_append, List.sum_append]
/-- What a statement's request and user are. -/
structure LawOk (r : ReqD) (u : UserD) (rg : List UInt8) : Prop where
  tg : r.tg.length ≤ 1048576
  m : r.m.length ≤ 1048576
  hv : heavy r.fs ≤ 1048576
  body : r.body.length ≤ 1048576
  id : u.id.length ≤ 1048577
  sec : u.sec.length ≤ 1048576
  rl : rg.length ≤ 1048577
  both : u.id.length + rg.length ≤ 1048600
theorem LawOk.sign {r : ReqD} {u : UserD} {rg : List UInt8} (h : LawOk r u rg) : SignOk r u rg :=
  ⟨by have := h.tg; omega, by have := h.m; omega, by have := h.hv; unfold heavy at this; omega, by have := h.body; omega, by have := h.id; omega, by have := h.sec; omega, by have := h.rl; omega⟩
theorem heavy_count (ps : List PairD) : 3 * ps.length ≤ heavy ps := by
  unfold heavy
  induction ps with
  | nil => simp
  | cons p t ih => simp only [List.map_cons, List.sum_cons, List.length_cons]; omega
/-- A request that was signed may be checked. -/
theorem LawOk.chk {r : ReqD} {u : UserD} {now : Int} {rg : List UInt8} {q : ReqD} {c : List UInt8} (h : LawOk r u rg) (hs : SignedQ r u now rg q c) (body : List UInt8) (hb : body.length ≤ 1048576) (us : List UserD) (rg' : List UInt8) (hr : rg'.length ≤ 10000000) (hu : ∀ v ∈ us, v.sec.length ≤ 10000000) : ChkOk { q with body := body } us rg' := by
  have hv := valueL_len u (stampL now) rg c
  have h16 : (stampL now).length = 16 := rfl
  have h64 := hexsha_len r.body
  have hb2 := h.both
  have hc := heavy_count r.fs
  have hh := h.hv
  have efs : q.fs = r.fs ++ [(datedL, stampL now), (bodySumL, hexL (sha r.body))] ++ [(authL, valueL u (stampL now) rg c)] := by rw [hs.e]
  have em : q.m = r.m := by rw [hs.e]
  have et : q.tg = r.tg := by rw [hs.e]
  have l1 : datedL.length = 10 := rfl
  have l2 : bodySumL.length = 20 := rfl
  have l3 : authL.length = 13 := rfl
  refine ⟨⟨?_, ?_, ?_⟩, by show body.length ≤ _; omega, ?_, ?_, hr, hu⟩
  · show q.tg.length ≤ _; rw [et]; have := h.tg; omega
  · show q.m.length ≤ _; rw [em]; have := h.m; omega
  · show heavy q.fs ≤ _
    rw [efs, heavy_app, heavy_app]
    have e1 : heavy [(datedL, stampL now), (bodySumL, hexL (sha r.body))] = datedL.length + (stampL now).length + 3 + (bodySumL.length + (hexL (sha r.body)).length + 3) := by simp [heavy]
    have e2 : heavy [(authL, valueL u (stampL now) rg c)] = authL.length + (valueL u (stampL now) rg c).length + 3 := by simp [heavy]
    rw [e1, e2]; omega
  · intro p hp
    have hp : p ∈ q.fs := hp
    rw [efs] at hp
    simp only [List.mem_append, List.mem_cons, List.not_mem_nil, or_false] at hp
    rcases hp with (hp | rfl | rfl) | rfl
    · have := heavy_mem hp; omega
    · show (stampL now).length ≤ _; omega
    · show (hexL (sha r.body)).length ≤ _; omega
    · show (valueL u (stampL now) rg c).length ≤ _; omega
  · show q.fs.length ≤ _
    rw [efs]; simp only [List.length_append, List.length_cons, List.length_nil]; omega
theorem exOk : LawOk exR exU [114] := ⟨by decide, by decide, by decide, by decide, by decide, by decide, by decide, by decide⟩
theorem exPlainOk : ChkOk exR [exU] [114] := ⟨⟨by decide, by decide, by decide⟩, by decide, by decide, by decide, by decide, by decide⟩
structure Ex17 (w W : World) (N M : Nat) (q : ReqD) (A : Option Addr) (c : Nat) : Prop where
  gr : Q w W
  u : UB W N exU
  r : RB W M q (.slice A 4 c)
  p : PairsAt W A 4 q.fs
theorem Ex17.go {w W W' : World} {N M : Nat} {q : ReqD} {A : Option Addr} {c : Nat} (h : Ex17 w W N M q A c) (hq : Q W W') : Ex17 w W' N M q A c := ⟨h.gr.trans hq, h.u.q hq, h.r.q hq, h.p.q hq⟩
set_option maxRecDepth 100000 in
set_option maxHeartbeats 8000000 in
theorem examples17_any (w : World) (hS : S17 w) : Calls Tryz.prog 9 #[] w fun e w' => e = .returned (.bool true) ∧ Q w w' := by
  obtain ⟨q, cq, hsq, hsg, hck, hck2, hcn, hl4⟩ := ex_all
  have HS := Lib.hid hS
  have HPl := Lib.hid plain_any
  have HSi : Hid (∀ (A : Option Addr) (c : Nat) W, Q w W → PairsAt W A 1 exR.fs → 1 ≤ c → c ≤ 100 → Calls Tryz.prog 10 #[.agg (reqC exR A 1 c).toArray, .agg (userC exU).toArray, .int .i64 1369353600, .string ⟨#[114]⟩] W fun e w' => (∃ A' c', e = .returned (.tuple #[.agg (reqV q (.slice A' 4 c')).toArray, .int .i64 0]) ∧ 4 ≤ c' ∧ c' ≤ 9223372036854775807 ∧ PairsAt w' A' 4 q.fs) ∧ Q W w') := Lib.hid (fun A c W hq hp h1 h2 => by
    have := Sign_any exR A 1 c exU 1369353600 [114] W hp h1 (by omega) exOk.sign (hS.q hq)
    rw [hsq] at this
    refine this.mono ?_
    rintro e w' ⟨v, rfl, ho, hq2⟩
    have hcb := ho
    obtain ⟨A', c', rfl, hc', hp'⟩ := ho.pairs
    have hcap := hcb.capb'
    rw [hl4] at hp' hc' ⊢
    exact ⟨⟨A', c', rfl, hc', hcap, hp'⟩, hq2⟩)
  have HCh : Hid (∀ (A B : Option Addr) (c : Nat) (at_ : Int) (x : UserD × Int) W, Q w W → PairsAt W A 4 q.fs → 4 ≤ c → c ≤ 9223372036854775807 → UsersAt W B 1 [exU] → checkQ q [exU] at_ [114] = x → Calls Tryz.prog 11 #[.agg (reqC q A 4 c).toArray, .slice B 1 1, .int .i64 at_, .string ⟨#[114]⟩] W fun e w' => e = .returned (.tuple #[.agg (userC x.1).toArray, .int .i64 x.2]) ∧ Q W w') := Lib.hid (fun A B c at_ x W hq hp h1 h2 hu hx => by
    have := Check_any q A 4 c B 1 1 [exU] at_ [114] W hp h1 h2 hu (by omega) (exOk.chk hsg q.body (by rw [hsg.e]; show exR.body.length ≤ _; decide) [exU] [114] (by decide) (by decide)) (hS.q hq)
    rw [hx] at this; exact this)
  have HCp : Hid (∀ (A B : Option Addr) (c : Nat) W, Q w W → PairsAt W A 1 exR.fs → 1 ≤ c → c ≤ 100 → UsersAt W B 1 [exU] → Calls Tryz.prog 11 #[.agg (reqC exR A 1 c).toArray, .slice B 1 1, .int .i64 0, .string ⟨#[114]⟩] W fun e w' => e = .returned (.tuple #[.agg (userC zeroU).toArray, .int .i64 71]) ∧ Q W w') := Lib.hid (fun A B c W hq hp h1 h2 hu => by
    have := Check_any exR A 1 c B 1 1 [exU] 0 [114] W hp h1 (by omega) hu (by omega) exPlainOk (hS.q hq)
    rw [ex_none] at this; exact this)
  have HCc : Hid (∀ (A B : Option Addr) (c : Nat) W, Q w W → PairsAt W A 4 q.fs → 4 ≤ c → c ≤ 9223372036854775807 → NmAt W B 1 [hostL] → Calls Tryz.prog 13 #[.agg (reqC q A 4 c).toArray, .slice B 1 1] W fun e w' => e = .returned (.tuple #[.string ⟨exW.toArray⟩, .int .i64 0]) ∧ Q W w') := Lib.hid (fun A B c W hq hp h1 h2 hn => by
    have := Canonical_any q A 4 c B 1 1 [hostL] W hp h1 h2 (exOk.chk hsg q.body (by rw [hsg.e]; show exR.body.length ≤ _; decide) [exU] [114] (by decide) (by decide)).rq hn (by omega) (by omega) (by decide) (hS.q hq)
    rw [hcn] at this; exact this)
  clear hsq hsg hcn hl4 hS
  have HX1 := Lib.hid hck
  have HX2 := Lib.hid hck2
  clear hck hck2
  obtain ⟨qm, qt, qi, qf, qb, qc⟩ := q
  obtain ⟨N, W1, W2, hN, hW1, hl1, hW2, hl2, hq2⟩ := usr_boxes w exU
  have hW1b : w.alloc (.cells #[.string ⟨#[]⟩, .string ⟨#[]⟩, .string ⟨#[]⟩] 26) = W1 := hW1
  have HU := Lib.hid hl2
  have HQ := Lib.hid hq2
  have HN := Lib.hid hN
  clear hl2 hq2
  go_enter Tryz.func9, Tryz.ntmps9
  go_upto_region 2 with (refine wpList_store_row rfl 26 _ _ rfl N (userC exU).toArray (by rfl) (by rfl) 26 _ hl1 (infoUsrS _) rfl (userC_one _) ?_)
  try rw [hW2]
  clear hN hW1 hl1 hW2 hW1b
  refine wp_flo [1] [(0, []), (2, [3, 4, 5])] 6 [7, 8] [[1, 2, 3, 4], [1, 2, 3, 5]] (.cells (reqV zeroR (.slice none 0 0)).toArray 24) (by kernel_rfl) (by kernel_rfl) (fun ρ W => by kernel_rfl) ?_
  simp only [wpCh, opsL, List.map_cons, List.map_nil, Array.getD_eq_getD_getElem?, List.getElem?_toArray, List.getElem?_cons_succ, List.getElem?_cons_zero, Option.getD_some]
  refine wpQuiet_load_row rfl 26 (.tmp 1) rfl N (by rfl) 26 (userC exU).toArray (0, 0) _ (fun w' hw' => by obtain ⟨m, rfl⟩ := hw'; exact HU.out.q ((Q.refl W2).drew.trans m.le)) Tryz.underlying26 rfl (infoUsrS _) ?_
  simp only [Act.put, List.setIfInBounds_toArray, List.set_cons_succ, List.set_cons_zero]
  refine wpQuiet_nil ?_
  obtain ⟨wd, hwd⟩ : ∃ W, W2.drew = W := ⟨_, rfl⟩
  have hqd : Q W2 wd := by rw [← hwd]; exact (Q.refl W2).drew
  rw [hwd]
  have HU := Lib.hid (HU.out.q hqd)
  have HQ := Lib.hid (HQ.out.trans hqd)
  have HUd := HU
  clear hwd hqd
  intro W hW K hK
  have HU := Lib.hid (HU.out.q hW)
  have HQ := Lib.hid (HQ.out.trans hW)
  clear hW
  go_wp2_with fail
  refine (HPl.out W).mono ?_
  rintro e w3 ⟨⟨A, c, rfl, hc1, hc2, hp⟩, hq3⟩
  go_wp2_with fail
  refine hK.out _ _ hq3 ?_
  have HU := Lib.hid (HU.out.q hq3)
  have HQ := Lib.hid (HQ.out.trans hq3)
  have HP := Lib.hid hp
  clear hK K hq3 hp
  refine wpQuiet_nil ?_
  intro W hW K hK
  have HU := Lib.hid (HU.out.q hW)
  have HQ := Lib.hid (HQ.out.trans hW)
  have HP := Lib.hid (HP.out.q hW)
  clear hW
  go_wp2_with fail
  refine (HSi.out A c W HQ.out HP.out hc1 hc2).mono ?_
  rintro e w4 ⟨⟨A', c', rfl, hc4, hcap, hp⟩, hq4⟩
  go_wp2_with fail
  refine hK.out _ _ hq4 ?_
  have HU := Lib.hid (HU.out.q hq4)
  have HQ := Lib.hid (HQ.out.trans hq4)
  have HP := Lib.hid hp
  clear hK K hq4 hp hc1 hc2
  (repeat (go_big_quiet_step (fail)))
  refine wpQuiet_nil ?_
  intro W b hW hb hN2
  have HU := Lib.hid (HU.out.q hW)
  have HQ := Lib.hid (HQ.out.trans hW)
  have HP := Lib.hid (HP.out.q hW)
  have hbw : w.heap.size ≤ b := Nat.le_trans (by have := lt_of_heap HUd.out; have h0 := HN.out; omega) hN2
  have hNb : N ≠ b := by have := lt_of_heap HUd.out; omega
  clear hW hN2 HUd
  simp only [List.map_cons, List.map_nil, Array.getD_eq_getD_getElem?, List.getElem?_toArray, List.getElem?_cons_succ, List.getElem?_cons_zero, Option.getD_some, Act.put, List.setIfInBounds_toArray, List.set_cons_succ, List.set_cons_zero]
  refine wpList_store_row rfl 24 _ _ rfl b (reqV ⟨qm, qt, qi, qf, qb, qc⟩ (.slice A' 4 c')).toArray (by rfl) (by rfl) 24 _ hb (infoReqS _ _) rfl (reqV_one _ _ _ _) ?_
  have hex : Ex17 w (W.setRow b (reqV ⟨qm, qt, qi, qf, qb, qc⟩ (.slice A' 4 c')).toArray) N b ⟨qm, qt, qi, qf, qb, qc⟩ A' c' := by
    refine ⟨Q.setRow HQ.out hbw _, HU.out.rowO hNb _, RB.row (r := zeroR) (v := .slice none 0 0) hb _ _, ?_⟩
    refine ⟨HP.out.1, fun h0 => ?_⟩
    obtain ⟨g', off, e, hlt, hc⟩ := HP.out.2 h0
    have hg : GX [b] W (W.setRow b (reqV ⟨qm, qt, qi, qf, qb, qc⟩ (.slice A' 4 c')).toArray) := (GX.refl _ W).setRow (by simp) _
    refine ⟨g', off, e, Nat.lt_of_lt_of_le hlt hg.size, fun j hj i v hv => ?_⟩
    have hcc := hc j hj i v hv
    by_cases he : g' = b
    · exfalso
      have h7 := hc 3 (by have h4 := HP.out.1; omega) 1 _ rfl
      rw [he, cell_of_row _ _ _ _ _ _ hb] at h7
      simp [reqV, zeroR] at h7
    · have := hg.block g' hlt (by simpa using he)
      unfold World.cell? at hcc ⊢
      rw [this]; exact hcc
  have hq0 : GX [b] W (W.setRow b (reqV ⟨qm, qt, qi, qf, qb, qc⟩ (.slice A' 4 c')).toArray) := (GX.refl _ W).setRow (by simp) _
  generalize W.setRow b (reqV ⟨qm, qt, qi, qf, qb, qc⟩ (.slice A' 4 c')).toArray = W5 at hex hq0 ⊢
  have HX := Lib.hid hex
  clear hex hq0 hb HP HU HQ hbw hNb
  go_wp2_with fail
  refine NoPanic.normal ?_
  obtain ⟨b0, b1, b2, b3, b4, b5⟩ := HX.out.r.c
  have u0 := HX.out.u.c.1
  have u1 := HX.out.u.c.2.1
  have u2 := HX.out.u.c.2.2
  simp only at b0 b1 b2 b3 b4 b5
  simp only [exU] at u0 u1 u2
  obtain ⟨V3, hV3⟩ : ∃ X, W5.alloc (.cells ([exU].flatMap userC).toArray 26) = X := ⟨_, rfl⟩
  have hus : UsersAt V3 (some ⟨W5.heap.size, 0, none⟩) 1 [exU] := by rw [← hV3]; exact UsersAt.lit W5 [exU] 1 rfl
  have hqv : Q W5 V3 := by rw [← hV3]; exact (Q.refl _).alloc _
  have hV3b : W5.alloc (.cells #[.string ⟨#[110]⟩, .string ⟨#[65]⟩, .string ⟨#[115]⟩] 26) = V3 := hV3
  obtain ⟨g3, hg3⟩ : ∃ g, W5.heap.size = g := ⟨_, rfl⟩
  rw [hg3] at hus
  have HX := Lib.hid (HX.out.go hqv)
  have HUS := Lib.hid hus
  clear hus hqv hV3
  go_wp2_with fail
  refine (HCh.out A' (some ⟨g3, 0, none⟩) c' 1369353600 _ V3 HX.out.gr HX.out.p hc4 hcap HUS.out HX1.out).mono ?_
  rintro e y3 ⟨rfl, hqy⟩
  have HX := Lib.hid (HX.out.go hqy)
  clear hqy hV3b hg3 b0 b1 b2 b3 b4 b5 u0 u1 u2 HUS
  obtain ⟨M3, Y1, Y2, hM, hY1, hl1, hY2, hl2, hq2⟩ := usr_boxes y3 exU
  have hY1b : y3.alloc (.cells #[.string ⟨#[]⟩, .string ⟨#[]⟩, .string ⟨#[]⟩] 26) = Y1 := hY1
  have HX := Lib.hid (HX.out.go hq2)
  have HU3 := Lib.hid hl2
  clear hl2 hq2
  go_upto_region 4 with (refine wpList_store_row rfl 26 _ _ rfl M3 (userC exU).toArray (by rfl) (by rfl) 26 _ hl1 (infoUsrS _) rfl (userC_one _) ?_)
  try rw [hY2]
  clear hM hY1 hl1 hY2 hY1b
  refine wp_flo2 [1] 0 2 [(3, [4, 5, 6])] 7 [8, 9] [[1, 2, 3, 4, 5], [1, 2, 3, 4, 6]] (.cells (userC zeroU).toArray 26) (by kernel_rfl) (by kernel_rfl) (fun ρ W => by kernel_rfl) ?_
  simp only [wpCh, opsL, List.map_cons, List.map_nil, Array.getD_eq_getD_getElem?, List.getElem?_toArray, List.getElem?_cons_succ, List.getElem?_cons_zero, Option.getD_some]
  refine wpQuiet_load_row rfl 26 (.tmp 1) rfl N (by rfl) 26 (userC exU).toArray (0, 0) _ (fun w' hw' => by obtain ⟨m, rfl⟩ := hw'; exact HX.out.u.q ((Q.refl Y2).drew.trans m.le)) Tryz.underlying26 rfl (infoUsrS _) ?_
  simp only [Act.put, List.setIfInBounds_toArray, List.set_cons_succ, List.set_cons_zero]
  simp only [userC, exU]
  refine wpQuiet_nil ?_
  obtain ⟨wd, hwd⟩ : ∃ W, Y2.drew = W := ⟨_, rfl⟩
  have hqd : Q Y2 wd := by rw [← hwd]; exact (Q.refl Y2).drew
  rw [hwd]
  have HX := Lib.hid (HX.out.go hqd)
  have HU3 := Lib.hid (HU3.out.q hqd)
  clear hwd hqd
  have HUd := HU3
  have HXd := HX
  have HQd : Hid (Q wd wd) := Lib.hid (Q.refl wd)
  refine ⟨?_, ?_⟩
  · intro W hW K hK
    have HX := Lib.hid (HX.out.go hW)
    have HQd := Lib.hid (HQd.out.trans hW)
    clear hW
    go_wp2_with fail
    refine (HPl.out W).mono ?_
    rintro e z3 ⟨⟨Ap, cp, rfl, hp1, hp2, hpp⟩, hq3⟩
    go_wp2_with fail
    refine hK.out _ _ hq3 ?_
    have HX := Lib.hid (HX.out.go hq3)
    have HQd := Lib.hid (HQd.out.trans hq3)
    have HPp := Lib.hid hpp
    clear hK K hq3 hpp
    refine wpQuiet_nil ?_
    intro W hW K hK
    have HX := Lib.hid (HX.out.go hW)
    have HQd := Lib.hid (HQd.out.trans hW)
    have HPp := Lib.hid (HPp.out.q hW)
    clear hW
    go_wp2_with fail
    obtain ⟨V4, hV4⟩ : ∃ X, W.alloc (.cells ([exU].flatMap userC).toArray 26) = X := ⟨_, rfl⟩
    have hus : UsersAt V4 (some ⟨W.heap.size, 0, none⟩) 1 [exU] := by rw [← hV4]; exact UsersAt.lit W [exU] 1 rfl
    have hqv : Q W V4 := by rw [← hV4]; exact (Q.refl _).alloc _
    have hV4b : W.alloc (.cells #[.string ⟨#[110]⟩, .string ⟨#[65]⟩, .string ⟨#[115]⟩] 26) = V4 := hV4
    obtain ⟨g4, hg4⟩ : ∃ g, W.heap.size = g := ⟨_, rfl⟩
    rw [hg4] at hus
    try simp only [userC, exU]
    try rw [hV4b]
    try rw [hg4]
    refine hK.out _ _ hqv ?_
    have HX := Lib.hid (HX.out.go hqv)
    have HQd := Lib.hid (HQd.out.trans hqv)
    have HPp := Lib.hid (HPp.out.q hqv)
    have HUS := Lib.hid hus
    clear hK K hqv hus hV4 hV4b hg4
    refine wpQuiet_nil ?_
    intro W hW K hK
    have HX := Lib.hid (HX.out.go hW)
    have HQd := Lib.hid (HQd.out.trans hW)
    have HPp := Lib.hid (HPp.out.q hW)
    have HUS := Lib.hid (HUS.out.q hW)
    clear hW
    go_wp2_with fail
    refine (HCp.out Ap (some ⟨g4, 0, none⟩) cp W HX.out.gr HPp.out hp1 hp2 HUS.out).mono ?_
    rintro e y4 ⟨rfl, hqy⟩
    go_wp2_with fail
    refine hK.out _ _ hqy ?_
    have HX := Lib.hid (HX.out.go hqy)
    have HQd := Lib.hid (HQd.out.trans hqy)
    clear hK K hqy hp1 hp2 HPp HUS
    (repeat (go_big_quiet_step (fail)))
    refine wpQuiet_nil ?_
    intro W bb hW hb hN2
    have HQd := Lib.hid (HQd.out.trans hW)
    have hex2 : Ex17 w (W.setRow bb (userC zeroU).toArray) N b ⟨qm, qt, qi, qf, qb, qc⟩ A' c' := HXd.out.go (Q.setRow HQd.out hN2 _)
    have hu3 : UB (W.setRow bb (userC zeroU).toArray) M3 exU := HUd.out.q (Q.setRow HQd.out hN2 _)
    clear hW hN2 HX HU3
    simp only [List.map_cons, List.map_nil, Array.getD_eq_getD_getElem?, List.getElem?_toArray, List.getElem?_cons_succ, List.getElem?_cons_zero, Option.getD_some, Act.put, List.setIfInBounds_toArray, List.set_cons_succ, List.set_cons_zero]
    refine wpList_store_row rfl 26 _ _ rfl bb (userC zeroU).toArray (by rfl) (by rfl) 26 _ hb (infoUsrS _) rfl (userC_one _) ?_
    generalize W.setRow bb (userC zeroU).toArray = Y4 at hex2 hu3 ⊢
    have HX := Lib.hid hex2
    have HU3 := Lib.hid hu3
    clear hex2 hu3 hb HXd HUd HQd
    go_wp2_with fail
    refine NoPanic.normal ?_
    obtain ⟨b0, b1, b2, b3, b4, b5⟩ := HX.out.r.c
    have u0 := HX.out.u.c.1
    have u1 := HX.out.u.c.2.1
    have u2 := HX.out.u.c.2.2
    simp only at b0 b1 b2 b3 b4 b5
    simp only [exU] at u0 u1 u2
    obtain ⟨V5, hV5⟩ : ∃ X, Y4.alloc (.cells ([exU].flatMap userC).toArray 26) = X := ⟨_, rfl⟩
    have hus : UsersAt V5 (some ⟨Y4.heap.size, 0, none⟩) 1 [exU] := by rw [← hV5]; exact UsersAt.lit Y4 [exU] 1 rfl
    have hqv : Q Y4 V5 := by rw [← hV5]; exact (Q.refl _).alloc _
    have hV5b : Y4.alloc (.cells #[.string ⟨#[110]⟩, .string ⟨#[65]⟩, .string ⟨#[115]⟩] 26) = V5 := hV5
    obtain ⟨g5, hg5⟩ : ∃ g, Y4.heap.size = g := ⟨_, rfl⟩
    rw [hg5] at hus
    have HX := Lib.hid (HX.out.go hqv)
    have HUS := Lib.hid hus
    have HU3 := Lib.hid (HU3.out.q hqv)
    clear hus hqv hV5
    go_wp2_with fail
    refine (HCh.out A' (some ⟨g5, 0, none⟩) c' 1369354501 _ V5 HX.out.gr HX.out.p hc4 hcap HUS.out HX2.out).mono ?_
    rintro e y5 ⟨rfl, hqy⟩
    have HX := Lib.hid (HX.out.go hqy)
    have HU3 := Lib.hid (HU3.out.q hqy)
    clear hqy hV5b hg5 b0 b1 b2 b3 b4 b5 u0 u1 u2 HUS
    obtain ⟨M5, Y1, Y2, hM, hY1, hl1, hY2, hl2, hq2⟩ := usr_boxes y5 zeroU
    have hY1b : y5.alloc (.cells #[.string ⟨#[]⟩, .string ⟨#[]⟩, .string ⟨#[]⟩] 26) = Y1 := hY1
    have HX := Lib.hid (HX.out.go hq2)
    have HU5 := Lib.hid hl2
    have HU3 := Lib.hid (HU3.out.q hq2)
    clear hl2 hq2
    go_upto_region 6 with (refine wpList_store_row rfl 26 _ _ rfl M5 (userC zeroU).toArray (by rfl) (by rfl) 26 _ hl1 (infoUsrS _) rfl (userC_one _) ?_)
    try rw [hY2]
    clear hM hY1 hl1 hY2 hY1b
    obtain ⟨b0, b1, b2, b3, b4, b5⟩ := HX.out.r.c
    simp only at b0 b1 b2 b3 b4 b5
    obtain ⟨V6, hV6⟩ : ∃ X, Y2.alloc (.cells ([hostL].map strV).toArray 9) = X := ⟨_, rfl⟩
    have hns : NmAt V6 (some ⟨Y2.heap.size, 0, none⟩) 1 [hostL] := by rw [← hV6]; exact NmAt.lit [hostL] Y2 _
    have hqv : Q Y2 V6 := by rw [← hV6]; exact (Q.refl _).alloc _
    have hV6b : Y2.alloc (.cells #[.string ⟨#[104, 111, 115, 116]⟩] 9) = V6 := hV6
    obtain ⟨g6, hg6⟩ : ∃ g, Y2.heap.size = g := ⟨_, rfl⟩
    rw [hg6] at hns
    have HX := Lib.hid (HX.out.go hqv)
    have HU3 := Lib.hid (HU3.out.q hqv)
    have HNS := Lib.hid hns
    clear hns hqv hV6
    go_wp2_with fail
    refine (HCc.out A' (some ⟨g6, 0, none⟩) c' V6 HX.out.gr HX.out.p hc4 hcap HNS.out).mono ?_
    rintro e y6 ⟨rfl, hqy⟩
    have HX := Lib.hid (HX.out.go hqy)
    have HU3 := Lib.hid (HU3.out.q hqy)
    clear hqy hV6b hg6 b0 b1 b2 b3 b4 b5 HNS
    have c3 := HX.out.r.c.2.2.2.1
    have u0 := HX.out.u.c.1
    have u1 := HX.out.u.c.2.1
    have u2 := HX.out.u.c.2.2
    have v0 := HU3.out.c.1
    have v1 := HU3.out.c.2.1
    have v2 := HU3.out.c.2.2
    simp only [exU] at u0 u1 u2 v0 v1 v2
    have qe : (exW == [71, 69, 84, 10, 47, 98, 47, 107, 10, 97, 61, 38, 122, 61, 49, 10, 104, 111, 115, 116, 58, 104, 10, 10, 104, 111, 115, 116, 10, 101, 51, 98, 48, 99, 52, 52, 50, 57, 56, 102, 99, 49, 99, 49, 52, 57, 97, 102, 98, 102, 52, 99, 56, 57, 57, 54, 102, 98, 57, 50, 52, 50, 55, 97, 101, 52, 49, 101, 52, 54, 52, 57, 98, 57, 51, 52, 99, 97, 52, 57, 53, 57, 57, 49, 98, 55, 56, 53, 50, 98, 56, 53, 53]) = true := by decide +kernel
    generalize exW = EW at qe ⊢
    go_wp2_with fail
    go_ret
    exact ⟨rfl, HX.out.gr⟩
  · intro W hW K hK
    have HX := Lib.hid (HX.out.go hW)
    have HQd := Lib.hid (HQd.out.trans hW)
    clear hW
    go_wp2_with fail
    obtain ⟨V4, hV4⟩ : ∃ X, W.alloc (.cells ([exU].flatMap userC).toArray 26) = X := ⟨_, rfl⟩
    have hus : UsersAt V4 (some ⟨W.heap.size, 0, none⟩) 1 [exU] := by rw [← hV4]; exact UsersAt.lit W [exU] 1 rfl
    have hqv : Q W V4 := by rw [← hV4]; exact (Q.refl _).alloc _
    have hV4b : W.alloc (.cells #[.string ⟨#[110]⟩, .string ⟨#[65]⟩, .string ⟨#[115]⟩] 26) = V4 := hV4
    obtain ⟨g4, hg4⟩ : ∃ g, W.heap.size = g := ⟨_, rfl⟩
    rw [hg4] at hus
    try simp only [userC, exU]
    try rw [hV4b]
    try rw [hg4]
    refine hK.out _ _ hqv ?_
    have HX := Lib.hid (HX.out.go hqv)
    have HQd := Lib.hid (HQd.out.trans hqv)
    have HUS := Lib.hid hus
    clear hK K hqv hus hV4 hV4b hg4
    refine wpQuiet_nil ?_
    intro W hW K hK
    have HX := Lib.hid (HX.out.go hW)
    have HQd := Lib.hid (HQd.out.trans hW)
    have HUS := Lib.hid (HUS.out.q hW)
    clear hW
    go_wp2_with fail
    refine (HPl.out W).mono ?_
    rintro e z3 ⟨⟨Ap, cp, rfl, hp1, hp2, hpp⟩, hq3⟩
    go_wp2_with fail
    refine hK.out _ _ hq3 ?_
    have HX := Lib.hid (HX.out.go hq3)
    have HQd := Lib.hid (HQd.out.trans hq3)
    have HPp := Lib.hid hpp
    have HUS := Lib.hid (HUS.out.q hq3)
    clear hK K hq3 hpp
    refine wpQuiet_nil ?_
    intro W hW K hK
    have HX := Lib.hid (HX.out.go hW)
    have HQd := Lib.hid (HQd.out.trans hW)
    have HPp := Lib.hid (HPp.out.q hW)
    have HUS := Lib.hid (HUS.out.q hW)
    clear hW
    go_wp2_with fail
    refine (HCp.out Ap (some ⟨g4, 0, none⟩) cp W HX.out.gr HPp.out hp1 hp2 HUS.out).mono ?_
    rintro e y4 ⟨rfl, hqy⟩
    go_wp2_with fail
    refine hK.out _ _ hqy ?_
    have HX := Lib.hid (HX.out.go hqy)
    have HQd := Lib.hid (HQd.out.trans hqy)
    clear hK K hqy hp1 hp2 HPp HUS
    (repeat (go_big_quiet_step (fail)))
    refine wpQuiet_nil ?_
    intro W bb hW hb hN2
    have HQd := Lib.hid (HQd.out.trans hW)
    have hex2 : Ex17 w (W.setRow bb (userC zeroU).toArray) N b ⟨qm, qt, qi, qf, qb, qc⟩ A' c' := HXd.out.go (Q.setRow HQd.out hN2 _)
    have hu3 : UB (W.setRow bb (userC zeroU).toArray) M3 exU := HUd.out.q (Q.setRow HQd.out hN2 _)
    clear hW hN2 HX HU3
    simp only [List.map_cons, List.map_nil, Array.getD_eq_getD_getElem?, List.getElem?_toArray, List.getElem?_cons_succ, List.getElem?_cons_zero, Option.getD_some, Act.put, List.setIfInBounds_toArray, List.set_cons_succ, List.set_cons_zero]
    refine wpList_store_row rfl 26 _ _ rfl bb (userC zeroU).toArray (by rfl) (by rfl) 26 _ hb (infoUsrS _) rfl (userC_one _) ?_
    generalize W.setRow bb (userC zeroU).toArray = Y4 at hex2 hu3 ⊢
    have HX := Lib.hid hex2
    have HU3 := Lib.hid hu3
    clear hex2 hu3 hb HXd HUd HQd
    go_wp2_with fail
    refine NoPanic.normal ?_
    obtain ⟨b0, b1, b2, b3, b4, b5⟩ := HX.out.r.c
    have u0 := HX.out.u.c.1
    have u1 := HX.out.u.c.2.1
    have u2 := HX.out.u.c.2.2
    simp only at b0 b1 b2 b3 b4 b5
    simp only [exU] at u0 u1 u2
    obtain ⟨V5, hV5⟩ : ∃ X, Y4.alloc (.cells ([exU].flatMap userC).toArray 26) = X := ⟨_, rfl⟩
    have hus : UsersAt V5 (some ⟨Y4.heap.size, 0, none⟩) 1 [exU] := by rw [← hV5]; exact UsersAt.lit Y4 [exU] 1 rfl
    have hqv : Q Y4 V5 := by rw [← hV5]; exact (Q.refl _).alloc _
    have hV5b : Y4.alloc (.cells #[.string ⟨#[110]⟩, .string ⟨#[65]⟩, .string ⟨#[115]⟩] 26) = V5 := hV5
    obtain ⟨g5, hg5⟩ : ∃ g, Y4.heap.size = g := ⟨_, rfl⟩
    rw [hg5] at hus
    have HX := Lib.hid (HX.out.go hqv)
    have HUS := Lib.hid hus
    have HU3 := Lib.hid (HU3.out.q hqv)
    clear hus hqv hV5
    go_wp2_with fail
    refine (HCh.out A' (some ⟨g5, 0, none⟩) c' 1369354501 _ V5 HX.out.gr HX.out.p hc4 hcap HUS.out HX2.out).mono ?_
    rintro e y5 ⟨rfl, hqy⟩
    have HX := Lib.hid (HX.out.go hqy)
    have HU3 := Lib.hid (HU3.out.q hqy)
    clear hqy hV5b hg5 b0 b1 b2 b3 b4 b5 u0 u1 u2 HUS
    obtain ⟨M5, Y1, Y2, hM, hY1, hl1, hY2, hl2, hq2⟩ := usr_boxes y5 zeroU
    have hY1b : y5.alloc (.cells #[.string ⟨#[]⟩, .string ⟨#[]⟩, .string ⟨#[]⟩] 26) = Y1 := hY1
    have HX := Lib.hid (HX.out.go hq2)
    have HU5 := Lib.hid hl2
    have HU3 := Lib.hid (HU3.out.q hq2)
    clear hl2 hq2
    go_upto_region 6 with (refine wpList_store_row rfl 26 _ _ rfl M5 (userC zeroU).toArray (by rfl) (by rfl) 26 _ hl1 (infoUsrS _) rfl (userC_one _) ?_)
    try rw [hY2]
    clear hM hY1 hl1 hY2 hY1b
    obtain ⟨b0, b1, b2, b3, b4, b5⟩ := HX.out.r.c
    simp only at b0 b1 b2 b3 b4 b5
    obtain ⟨V6, hV6⟩ : ∃ X, Y2.alloc (.cells ([hostL].map strV).toArray 9) = X := ⟨_, rfl⟩
    have hns : NmAt V6 (some ⟨Y2.heap.size, 0, none⟩) 1 [hostL] := by rw [← hV6]; exact NmAt.lit [hostL] Y2 _
    have hqv : Q Y2 V6 := by rw [← hV6]; exact (Q.refl _).alloc _
    have hV6b : Y2.alloc (.cells #[.string ⟨#[104, 111, 115, 116]⟩] 9) = V6 := hV6
    obtain ⟨g6, hg6⟩ : ∃ g, Y2.heap.size = g := ⟨_, rfl⟩
    rw [hg6] at hns
    have HX := Lib.hid (HX.out.go hqv)
    have HU3 := Lib.hid (HU3.out.q hqv)
    have HNS := Lib.hid hns
    clear hns hqv hV6
    go_wp2_with fail
    refine (HCc.out A' (some ⟨g6, 0, none⟩) c' V6 HX.out.gr HX.out.p hc4 hcap HNS.out).mono ?_
    rintro e y6 ⟨rfl, hqy⟩
    have HX := Lib.hid (HX.out.go hqy)
    have HU3 := Lib.hid (HU3.out.q hqy)
    clear hqy hV6b hg6 b0 b1 b2 b3 b4 b5 HNS
    have c3 := HX.out.r.c.2.2.2.1
    have u0 := HX.out.u.c.1
    have u1 := HX.out.u.c.2.1
    have u2 := HX.out.u.c.2.2
    have v0 := HU3.out.c.1
    have v1 := HU3.out.c.2.1
    have v2 := HU3.out.c.2.2
    simp only [exU] at u0 u1 u2 v0 v1 v2
    have qe : (exW == [71, 69, 84, 10, 47, 98, 47, 107, 10, 97, 61, 38, 122, 61, 49, 10, 104, 111, 115, 116, 58, 104, 10, 10, 104, 111, 115, 116, 10, 101, 51, 98, 48, 99, 52, 52, 50, 57, 56, 102, 99, 49, 99, 49, 52, 57, 97, 102, 98, 102, 52, 99, 56, 57, 57, 54, 102, 98, 57, 50, 52, 50, 55, 97, 101, 52, 49, 101, 52, 54, 52, 57, 98, 57, 51, 52, 99, 97, 52, 57, 53, 57, 57, 49, 98, 55, 56, 53, 50, 98, 56, 53, 53]) = true := by decide +kernel
    generalize exW = EW at qe ⊢
    go_wp2_with fail
    go_ret
    exact ⟨rfl, HX.out.gr⟩

end Go.Proofs.YtmmoenbmgcplkaaGreatDoor
/- SignNothing, walked. -/
set_option linter.unusedVariables false
set_option linter.unusedSimpArgs false
namespace Go.Proofs.YtmmoenbmgcplkaaGreatDoor
open Go Go.RowKit
def keepP (p : PairD) : Bool := decide (p.1.length ≠ 13)
theorem keep_none (ps : List PairD) : manyL (ps.filter keepP) authL = 0 := by
  unfold manyL
  rw [List.countP_eq_zero]
  intro p hp
  have h1 := (List.mem_filter.1 hp).2
  unfold keepP at h1
  have h2 : p.1.length ≠ 13 := of_decide_eq_true h1
  intro e
  have := congrArg List.length (eq_of_beq e)
  unfold smL at this
  simp only [List.length_map] at this
  exact h2 this
theorem keep_heavy (ps : List PairD) : heavy (ps.filter keepP) ≤ heavy ps := by
  induction ps with
  | nil => exact Nat.le_refl _
  | cons p r ih =>
    rw [List.filter_cons]
    unfold heavy at *
    split
    · simp only [List.map_cons, List.sum_cons]; omega
    · simp only [List.map_cons, List.sum_cons]; omega
theorem keep_snoc (ps : List PairD) (k : Nat) (h : k < ps.length) : (ps.take (k + 1)).filter keepP = (ps.take k).filter keepP ++ (if (gU ps k).1.length = 13 then [] else [gU ps k]) := by
  rw [take_snocP ps k h, List.filter_append]
  congr 1
  unfold keepP
  by_cases hl : (gU ps k).1.length = 13
  · rw [if_pos hl]; simp [hl]
  · rw [if_neg hl]; simp [hl]
/-- What a statement hands to the check. -/
theorem chk_plain {r : ReqD} (htg : r.tg.length ≤ 1048576) (hm : r.m.length ≤ 1048576) (hb : r.body.length ≤ 1048576) (hv : heavy r.fs ≤ 1048576) (us : List UserD) (rg : List UInt8) (hr : rg.length ≤ 1048577) (hu : ∀ v ∈ us, v.sec.length ≤ 1048576) : ChkOk r us rg := by
  have hc := heavy_count r.fs
  refine ⟨⟨by omega, by omega, ?_⟩, by omega, ?_, by omega, by omega, fun v hv => by have := hu v hv; omega⟩
  · show heavy r.fs ≤ _; omega
  · intro p hp; have := heavy_mem hp; omega
set_option maxRecDepth 100000 in
set_option maxHeartbeats 8000000 in
theorem SignNothing_any (r : ReqD) (A : Option Addr) (n c : Nat) (B : Option Addr) (k kc : Nat) (us : List UserD) (now : Int) (rg : List UInt8) (w : World) (hf : PairsAt w A n r.fs) (hc : n ≤ c) (hcap : c ≤ 9223372036854775807) (hu : UsersAt w B k us) (hk : k ≤ 9223372036854775807)
    (htg : r.tg.length ≤ 1048576) (hm : r.m.length ≤ 1048576) (hb : r.body.length ≤ 1048576) (hv : heavy r.fs ≤ 1048576) (hr : rg.length ≤ 1048577) (hus : ∀ v ∈ us, v.sec.length ≤ 1048576) (hS : S17 w) :
    Calls Tryz.prog 5 #[.agg (reqC r A n c).toArray, .slice B k kc, .int .i64 now, .string ⟨rg.toArray⟩] w fun e w' => e = .returned (.bool true) ∧ Q w w' := by
  have hn := hf.1
  have hcnt := heavy_count r.fs
  have hea : ∀ p ∈ r.fs, p.1.length ≤ 10000000 ∧ p.2.length ≤ 10000000 := fun p hp => by have := heavy_mem hp; omega
  obtain ⟨q, hq⟩ : ∃ q, checkQ { r with fs := r.fs.filter keepP } us now rg = q := ⟨_, rfl⟩
  have hqv : q = if TimeOk now then (zeroU, 71) else (zeroU, 1) := by
    rw [← hq]
    unfold checkQ
    by_cases ht : TimeOk now
    · rw [if_pos ht, if_pos ht, if_pos (keep_none r.fs)]
    · rw [if_neg ht, if_neg ht]
  have HCk := Lib.hid (fun (A' : Option Addr) (n' c' : Nat) W (hq : Q w W) (hp : PairsAt W A' n' (r.fs.filter keepP)) (h1 : n' ≤ c') (h2 : c' ≤ 9223372036854775807) => Check_any { r with fs := r.fs.filter keepP } A' n' c' B k kc us now rg W hp h1 h2 (hu.q hq) hk (chk_plain (r := { r with fs := r.fs.filter keepP }) htg hm hb (Nat.le_trans (keep_heavy r.fs) hv) us rg hr hus) (hS.q hq))
  rw [hq] at HCk
  unfold CkPost at HCk
  have HEx := Lib.hid (fun W (hq : Q w W) => examples17_any W (hS.q hq))
  have HF := Lib.hid hf
  have HEA := Lib.hid hea
  have HQV := Lib.hid hqv
  obtain ⟨N, w1, hN, e1, hb1, hq1⟩ : ∃ N w1, w.heap.size = N ∧ w.alloc (.cells (reqV r (.slice A n c)).toArray 24) = w1 ∧ RB w1 N r (.slice A n c) ∧ Q w w1 := ⟨_, _, rfl, rfl, RB.new w r _, (Q.refl w).alloc _⟩
  have HB := Lib.hid hb1
  have HQ := Lib.hid hq1
  have HN := Lib.hid hN
  have HFN := Lib.hid hn
  have hfn : r.fs.length ≤ 1000000 := by omega
  clear hf hS hea hqv hq hu hus hb1 hq1 hn hcnt hv hb htg hm hk
  obtain ⟨m, tg, minor, fs, body, close⟩ := r
  simp only [reqV] at e1
  simp only at HFN hfn
  unfold reqC at HCk ⊢
  go_enter Tryz.func5, Tryz.ntmps5
  go_wp2_with fail
  refine (HEx.out _ HQ.out).mono ?_
  rintro e w2 ⟨rfl, hq2⟩
  have HB2 := Lib.hid (HB.out.q hq2)
  have HQ2 := Lib.hid (HQ.out.trans hq2)
  have hNw : N < w2.heap.size := lt_of_heap HB2.out
  clear hq2 HQ HB e1 hN
  go_wp2_with fail
  go_loopw [10, 11] (fun v i wr => ∃ j : Nat, j ≤ fs.length ∧ i = .int .i64 (j : Int) ∧ Hid (OwnU w2 wr v ((fs.take j).filter keepP)) ∧ Hid (Q w2 wr)) (fun _ i _ => fs.length - (intOf i).toNat)
  case atStart => exact ⟨0, by omega, rfl, Lib.hid (OwnU.nil _ _), Lib.hid (Q.refl _)⟩
  case round =>
    obtain ⟨j, hj, rfl, HO, HQj⟩ := hrel
    have HWj := Lib.hid (HQ2.out.trans HQj.out)
    have b3 := (HB2.out.q HQj.out).c.2.2.2.1
    by_cases hlt : j < fs.length
    · have g1 : decide (j < n) = true := by rw [HFN.out]; simpa using hlt
      have hjn : j < n := by rw [HFN.out]; exact hlt
      obtain ⟨g, off, hA, e0, e2⟩ := (HF.out.q HWj.out).at hjn
      subst hA
      have HSN := Lib.hid (keep_snoc fs j hlt)
      obtain ⟨⟨x, y⟩, hxy⟩ : ∃ p, gU fs j = p := ⟨_, rfl⟩
      have hxl : x.length ≤ 10000000 ∧ y.length ≤ 10000000 := by
        have := HEA.out _ (List.getElem_mem hlt)
        rw [← gU_get _ _ hlt, hxy] at this; exact this
      obtain ⟨hxl1, hxl2⟩ := hxl
      rw [hxy] at e0 e2 HSN
      simp only at e0 e2 HSN
      clear hxy
      rename World => wa
      by_cases h13 : x.length = 13
      · have q1 : ((x.length : Int) != 13) = false := by rw [h13]; rfl
        have HN2 : Hid ((fs.take (j + 1)).filter keepP = (fs.take j).filter keepP) := Lib.hid (by rw [HSN.out, if_pos h13, List.append_nil])
        clear h13 HSN
        go_wp2_with fail
        go_roundw
        case rel => exact ⟨j + 1, by omega, by go_num, Lib.hid (by rw [HN2.out]; exact HO.out), HQj⟩
        case measure => simp [intOf]; omega
      · have q1 : ((x.length : Int) != 13) = true := by rw [bne_iff_ne]; omega
        have HN2 : Hid ((fs.take (j + 1)).filter keepP = (fs.take j).filter keepP ++ [(x, y)]) := Lib.hid (by rw [HSN.out, if_neg h13])
        have HLn : Hid (((fs.take j).filter keepP).length ≤ 1000000) := Lib.hid (Nat.le_trans (List.length_filter_le _ _) (by rw [List.length_take]; omega))
        clear h13 HSN
        go_upto_region 7 with (fail)
        have hln := HLn.out
        go_wp2_with (at_builtin; refine wpList_append_u rfl (.tmp 30) (.tmp 36) rfl w2 wa _ ((fs.take j).filter keepP) (x, y) rfl HO.out rfl HQj.out.size (by omega) ?_)
        intro v2 wb ho hg
        have hq : Q w2 wb := gb_q_own hg (HQj.out) (fun bk hbk => (HO.out.block hbk).1)
        have HO2 := Lib.hid ho
        have HQ2' := Lib.hid hq
        clear ho hg hq HO HQj e0 e2 b3 hln
        go_wp2_with fail
        go_roundw
        case rel => exact ⟨j + 1, by omega, by go_num, Lib.hid (by rw [HN2.out]; exact HO2.out), HQ2'⟩
        case measure => simp [intOf]; omega
    · have hjn : j = fs.length := by omega
      have g1 : decide (j < n) = false := by rw [HFN.out]; simpa using hlt
      have hOf : OwnU w2 wr u10 (fs.filter keepP) := by have := HO.out; rw [hjn, List.take_length] at this; exact this
      have hcb := hOf
      obtain ⟨A', c', rfl, hc', hp'⟩ := hOf.pairs
      have hcap' := hcb.capb'
      obtain ⟨LN, hLN⟩ : ∃ x, (fs.filter keepP).length = x := ⟨_, rfl⟩
      rw [hLN] at hc' hcb hp' ⊢
      have f3 := (HB2.out.q HQj.out).f 3
      have hB3 := (HB2.out.q HQj.out).set (.slice A' LN c')
      obtain ⟨W3, hW3⟩ : ∃ W, wr.setCell ⟨N, 3, none⟩ (.slice A' LN c') = W := ⟨_, rfl⟩
      have hq3 : Q w W3 := by rw [← hW3]; exact Q.setNew HWj.out (by rw [HN.out]; exact Nat.le_refl _) _
      have hp3 : PairsAt W3 A' LN (fs.filter keepP) := by rw [← hW3]; exact (hcb.setC N 3 _ hNw).pa
      rw [hW3] at hB3
      have HB3 := Lib.hid hB3
      have HQ3 := Lib.hid hq3
      have HP3 := Lib.hid hp3
      clear hOf hcb hp' hLN hB3 hq3 hp3 HO HQj HWj hjn hlt
      go_upto_region 9 with (fail)
      try rw [hW3]
      clear hW3 b3 f3 HB2
      obtain ⟨b0, b1, b2, b3, b4, b5⟩ := HB3.out.c
      simp only at b0 b1 b2 b4 b5
      go_wp2_with fail
      refine (HCk.out A' LN c' W3 HQ3.out HP3.out hc' hcap').mono ?_
      rintro e w5 ⟨rfl, hq5⟩
      have HQ5 := Lib.hid (HQ3.out.trans hq5)
      clear b0 b1 b2 b3 b4 b5 HB3 HP3 HQ3 hq5
      obtain ⟨M, Y1, Y2, hM, hY1, hl1, hY2, hl2, hq2⟩ := usr_boxes w5 q.1
      have hY1b : w5.alloc (.cells #[.string ⟨#[]⟩, .string ⟨#[]⟩, .string ⟨#[]⟩] 26) = Y1 := hY1
      have HQ6 := Lib.hid (HQ5.out.trans hq2)
      have HU := Lib.hid hl2
      clear hl2 hq2
      obtain ⟨QU, hQU⟩ : ∃ x, q.1 = x := ⟨_, rfl⟩
      obtain ⟨QE, hQE⟩ : ∃ x, q.2 = x := ⟨_, rfl⟩
      have HV : Hid (QU = (if TimeOk now then ((zeroU, 71) : UserD × Int) else (zeroU, 1)).1 ∧ QE = (if TimeOk now then ((zeroU, 71) : UserD × Int) else (zeroU, 1)).2) := Lib.hid (by rw [← hQU, ← hQE, ← HQV.out]; exact ⟨rfl, rfl⟩)
      rw [hQU] at HU hY2 ⊢
      rw [hQE]
      clear hQU hQE HQV
      go_upto_region 10 with (refine wpList_store_row rfl 26 _ _ rfl M (userC QU).toArray (by rfl) (by rfl) 26 _ hl1 (infoUsrS _) rfl (userC_one _) ?_)
      try rw [hY2]
      clear hM hY1 hl1 hY2 hY1b
      by_cases ht : TimeOk now
      · have h2 := HV.out
        rw [if_pos ht] at h2
        obtain ⟨rfl, rfl⟩ := h2
        obtain ⟨t1, t2⟩ := ht
        have q1 : decide (now < 0) = false := by simp; omega
        have q2 : decide ((253402300799 : Int) < now) = false := by simp; omega
        have u0 := HU.out.c.1
        have u1 := HU.out.c.2.1
        have u2 := HU.out.c.2.2
        simp only [zeroU] at u0 u1 u2
        clear HV t1 t2
        go_wp2_with fail
        go_ret
        exact ⟨rfl, HQ6.out⟩
      · have h2 := HV.out
        rw [if_neg ht] at h2
        obtain ⟨rfl, rfl⟩ := h2
        have htt : now < 0 ∨ 253402300799 < now := by unfold TimeOk at ht; omega
        clear HV ht
        rcases htt with ht | ht
        · have q1 : decide (now < 0) = true := by simpa using ht
          clear ht
          go_wp2_with fail
          go_ret
          exact ⟨rfl, HQ6.out⟩
        · have q1 : decide (now < 0) = false := by simp; omega
          have q2 : decide ((253402300799 : Int) < now) = true := by simpa using ht
          clear ht
          go_wp2_with fail
          go_ret
          exact ⟨rfl, HQ6.out⟩
end Go.Proofs.YtmmoenbmgcplkaaGreatDoor
/- A slice of pairs that came in, opened; what the bulk bounds. -/
set_option linter.unusedVariables false
namespace Go.Proofs.YtmmoenbmgcplkaaGreatDoor
open Go Go.RowKit Go.ChangeShapes Go.WideShapes Go.Deep
theorem list2 {α : Type} {l : List α} (h : l.length = 2) : ∃ a b, l = [a, b] := by
  match l, h with
  | [a, b], _ => exact ⟨a, b, rfl⟩
theorem str_back (s : ByteArray) : Value.string s = .string ⟨s.data.toList.toArray⟩ := by cases s; rfl
theorem trod_struct2 {H : Type} {enc : TypeId × Value → H} {P : Program} {w : World} {base : Nat} {spare : Nat → Bool} {held : Bool} {t : TypeId} {f0 f1 : Field} {fuel : Nat} {cs : List Value} {x : DataW H × List MemPlace} (ht : P.underlying t = some (.struct #[f0, f1])) (h : DataW.trod enc P w base spare held fuel t cs = some x) :
    ∃ y0 y1 n, x.1 = .agg [y0.1, y1.1] ∧ cs.length = P.cellsOf t ∧ DataW.trod enc P w base spare held n f0.type ((cs.drop f0.offset).take (P.cellsOf f0.type)) = some y0 ∧
      DataW.trod enc P w base spare held n f1.type ((cs.drop f1.offset).take (P.cellsOf f1.type)) = some y1 := by
  obtain ⟨xs, n, _, rfl, hl, hlen, hf⟩ := DataW.trod_struct ht h
  obtain ⟨y0, y1, rfl⟩ := list2 (hlen.trans rfl)
  exact ⟨y0, y1, n, by simp, hl, by simpa using hf 0 f0 rfl, by simpa using hf 1 f1 rfl⟩
section
variable {H : Type} {enc : TypeId × Value → H} {W : World} {sp : Nat → Bool} {hd : Bool}
def pairDat (p : PairD) : DataW H := .agg [.lit (.string p.1), .lit (.string p.2)]
theorem str_of {fuel : Nat} {c : Value} {y : DataW H × List MemPlace} (h : DataW.trod enc Tryz.prog W 0 sp hd fuel 9 [c] = some y) : ∃ s : List UInt8, c = .string ⟨s.toArray⟩ ∧ y.1 = .lit (.string s) := by
  obtain ⟨s, e, e2, _⟩ := DataW.trod_string Tryz.underlying9 h
  have e' : c = .string s := by simpa using e
  exact ⟨s.data.toList, e'.trans (str_back s), by rw [e2]⟩
theorem pair_of {fuel : Nat} {cs : List Value} {y : DataW H × List MemPlace} (h : DataW.trod enc Tryz.prog W 0 sp hd fuel 37 cs = some y) : ∃ p : PairD, cs = pairL p ∧ y.1 = pairDat p := by
  obtain ⟨y0, y1, n, hx, hl, g0, g1⟩ := trod_struct2 Tryz.underlying37 h
  have hc : Tryz.prog.cellsOf 37 = 2 := by kernel_rfl
  have hs : Tryz.prog.cellsOf 9 = 1 := by kernel_rfl
  rw [hc] at hl
  obtain ⟨c0, c1, rfl⟩ := list2 hl
  simp only [hs, List.drop_zero, List.drop_succ_cons, List.take_succ_cons, List.take_zero] at g0 g1
  obtain ⟨s0, rfl, x0⟩ := str_of g0
  obtain ⟨s1, rfl, x1⟩ := str_of g1
  exact ⟨(s0, s1), rfl, by rw [hx, x0, x1]; rfl⟩
theorem bulk_all {d : DataW H} {l : List (DataW H)} (h : d ∈ l) : Rows.uptoBulk d ≤ Rows.uptoBulkAll l := by
  induction l with
  | nil => cases h
  | cons a r ih =>
    simp only [Rows.uptoBulkAll]
    rcases List.mem_cons.1 h with h | h
    · subst h; omega
    · have := ih h; omega
theorem bulk_pos (d : DataW H) : 1 ≤ Rows.uptoBulk d := by
  cases d with
  | lit l => cases l <;> simp [Rows.uptoBulk]
  | _ => simp [Rows.uptoBulk]
theorem bulk_len (l : List (DataW H)) : l.length ≤ Rows.uptoBulkAll l := by
  induction l with
  | nil => simp
  | cons a r ih => have := bulk_pos a; simp only [Rows.uptoBulkAll, List.length_cons]; omega
theorem pair_bulk (p : PairD) : Rows.uptoBulk (pairDat (H := H) p) = p.1.length + 1 + (p.2.length + 1) + 1 := by
  simp [pairDat, Rows.uptoBulk, Rows.uptoBulkAll]
theorem bulk_heavy (ps : List PairD) : Rows.uptoBulkAll (H := H) (ps.map pairDat) = (ps.map fun p => p.1.length + p.2.length + 3).sum := by
  induction ps with
  | nil => simp [Rows.uptoBulkAll]
  | cons p r ih => simp only [List.map_cons, List.sum_cons, Rows.uptoBulkAll, pair_bulk, ih]; omega
/-- A slice of pairs that came in. -/
theorem pairs_of {fuel : Nat} {A : Option Addr} {len cap : Nat} {y : DataW H × List MemPlace} (h : DataW.trod enc Tryz.prog W 0 (fun _ => true) hd fuel 22 [.slice A len cap] = some y) (hB : Rows.uptoBulk y.1 ≤ 1048576) (hz : ∀ x ∈ y.1.weights Tryz.prog 22, x ≤ reachBytes) :
    ∃ ps, PairsAt W A len ps ∧ (∀ p ∈ ps, p.1.length ≤ 1048576 ∧ p.2.length ≤ 1048576) ∧ len ≤ 1048576 ∧ len ≤ cap ∧ cap ≤ 5000000000000 ∧ (ps.map fun p => p.1.length + p.2.length + 3).sum ≤ 1048576 := by
  have hc : Tryz.prog.cellsOf 37 = 2 := by kernel_rfl
  have hb : Tryz.prog.bytesOf 37 = 32 := by kernel_rfl
  rcases open_slice Tryz.underlying22 h with ⟨hcs, hx⟩ | ⟨a, len', cap', m, n, D, Pl, hcs, _, hl, hm, hmm, rfl, hcell⟩
  · simp at hcs
    obtain ⟨rfl, rfl, rfl⟩ := hcs
    exact ⟨[], ⟨rfl, fun h => absurd h (by omega)⟩, (fun p hp => by cases hp), by omega, by omega, by omega, by simp⟩
  · simp at hcs
    obtain ⟨rfl, rfl, rfl⟩ := hcs
    simp only [if_true] at hmm
    subst hmm
    rw [hc] at hcell
    obtain ⟨p, hp⟩ := choose_lt (α := PairD) (p := fun i q => (∀ k v, (pairL q)[k]? = some v → W.cell? ((a.add (i * 2)).add k) = some v) ∧ D i = pairDat q) (fun i hi => by
      obtain ⟨cs', h1, h2⟩ := hcell i hi
      obtain ⟨_, hlen, hcc⟩ := World.cells?_some h1
      obtain ⟨q, rfl, hq⟩ := pair_of h2
      refine ⟨q, fun k v hk => ?_, hq⟩
      have hk2 : k < 2 := by
        have := (List.getElem?_eq_some_iff.1 hk).1
        simpa [pairL] using this
      rw [hcc k hk2, hk])
    have hw : ∀ x ∈ ((m * 32) :: (DataW.weightsAll Tryz.prog 37 ((List.range len).map D))), x ≤ reachBytes := by
      intro x hx
      refine hz x ?_
      rw [DataW.weights, Tryz.underlying22]
      simp only [List.length_map, List.length_range, hb, List.mem_cons, List.mem_append] at hx ⊢
      rcases hx with hx | hx
      · left; rw [hx, Nat.add_sub_cancel' hl]
      · right; left; exact hx
    have hcap := hw (m * 32) (by simp)
    unfold reachBytes at hcap
    refine ⟨(List.range len).map p, ⟨by simp, fun h0 => ?_⟩, fun q hq => ?_, by have h9 := bulk_len (H := H) ((List.range len).map D); simp only [Rows.uptoBulk, List.length_map, List.length_range] at h9 hB; omega, hl, by omega, by
      have h2 : Rows.uptoBulkAll ((List.range len).map D) ≤ 1048576 := by
        simp only [Rows.uptoBulk] at hB; omega
      have h3 : (List.range len).map D = ((List.range len).map p).map pairDat := by
        rw [List.map_map]
        exact List.map_congr_left fun i hi => (hp i (by have := List.mem_range.1 hi; omega)).2
      rw [h3, bulk_heavy] at h2
      exact h2⟩
    · have h00 := (hp 0 (by omega)).1 0 _ rfl
      rw [Nat.zero_mul, add_add] at h00
      obtain ⟨g, off, spot⟩ := a
      have hsp : spot = none ∧ g < W.heap.size := by
        unfold Addr.add World.cell? at h00
        simp only [Nat.add_zero, if_true] at h00
        split at h00
        · rename_i c t f hg
          refine ⟨?_, (Array.getElem?_eq_some_iff.1 hg).1⟩
          cases spot with
          | none => rfl
          | some s => simp at h00
        · cases h00
      obtain ⟨rfl, hg⟩ := hsp
      refine ⟨g, off, rfl, hg, fun j hj i v hv => ?_⟩
      have hj' : j < len := by simpa using hj
      have := (hp j (by omega)).1 i v (by simpa using hv)
      rw [add_add] at this
      unfold Addr.add at this
      by_cases h0 : j * 2 + i = 0
      · rw [if_pos h0] at this
        rw [show off + j * 2 + i = off by omega]; exact this
      · rw [if_neg h0] at this
        rw [show off + j * 2 + i = off + (j * 2 + i) by omega]; exact this
    · obtain ⟨i, hi, rfl⟩ := List.mem_map.1 hq
      have hi' : i < len := by simpa using hi
      have h1 := bulk_all (H := H) (List.mem_map.2 ⟨i, hi, rfl⟩ : D i ∈ (List.range len).map D)
      rw [(hp i (by omega)).2, pair_bulk] at h1
      have h2 : Rows.uptoBulkAll ((List.range len).map D) ≤ 1048576 := by
        simp only [Rows.uptoBulk] at hB; omega
      omega
set_option maxRecDepth 100000 in
theorem pairs_open {b0 : Nat} {v : Value} {d : DataW H} {q : List MemPlace} (hv : Value.okWide Tryz.prog W .any b0 22 v) (h : DataW.Trod enc Tryz.prog W 0 (fun _ => true) hd 22 v d q) (hB : Rows.uptoBulk d ≤ 1048576) (hz : ∀ x ∈ d.weights Tryz.prog 22, x ≤ reachBytes) :
    ∃ A n cap ps, v = .slice A n cap ∧ PairsAt W A n ps ∧ (∀ p ∈ ps, p.1.length ≤ 1048576 ∧ p.2.length ≤ 1048576) ∧ n ≤ 1048576 ∧ n ≤ cap ∧ cap ≤ 5000000000000 ∧ (ps.map fun p => p.1.length + p.2.length + 3).sum ≤ 1048576 := by
  obtain ⟨A, len, cap, rfl⟩ := okWide_slice Tryz.underlying22 hv
  obtain ⟨fuel, hf⟩ := h
  obtain ⟨ps, h1, h2, h3, h4, h5⟩ := pairs_of hf hB hz
  exact ⟨A, len, cap, ps, rfl, h1, h2, h3, h4, h5⟩
end
end Go.Proofs.YtmmoenbmgcplkaaGreatDoor
/- Arguments that came in, opened: requests, users. -/
set_option linter.unusedVariables false
set_option linter.unusedSimpArgs false
namespace Go.Proofs.YtmmoenbmgcplkaaGreatDoor
open Go Go.RowKit Go.ChangeShapes Go.WideShapes Go.Deep
theorem list3 {α : Type} {l : List α} (h : l.length = 3) : ∃ a b c, l = [a, b, c] := by
  match l, h with
  | [a, b, c], _ => exact ⟨a, b, c, rfl⟩
theorem list6 {α : Type} {l : List α} (h : l.length = 6) : ∃ a b c d e f, l = [a, b, c, d, e, f] := by
  match l, h with
  | [a, b, c, d, e, f], _ => exact ⟨a, b, c, d, e, f, rfl⟩
theorem trod_struct3 {H : Type} {enc : TypeId × Value → H} {P : Program} {w : World} {base : Nat} {spare : Nat → Bool} {held : Bool} {t : TypeId} {f0 f1 f2 : Field} {fuel : Nat} {cs : List Value} {x : DataW H × List MemPlace} (ht : P.underlying t = some (.struct #[f0, f1, f2])) (h : DataW.trod enc P w base spare held fuel t cs = some x) :
    ∃ y0 y1 y2 n, x.1 = .agg [y0.1, y1.1, y2.1] ∧ cs.length = P.cellsOf t ∧ DataW.trod enc P w base spare held n f0.type ((cs.drop f0.offset).take (P.cellsOf f0.type)) = some y0 ∧
      DataW.trod enc P w base spare held n f1.type ((cs.drop f1.offset).take (P.cellsOf f1.type)) = some y1 ∧ DataW.trod enc P w base spare held n f2.type ((cs.drop f2.offset).take (P.cellsOf f2.type)) = some y2 := by
  obtain ⟨xs, n, _, rfl, hl, hlen, hf⟩ := DataW.trod_struct ht h
  obtain ⟨y0, y1, y2, rfl⟩ := list3 (hlen.trans rfl)
  exact ⟨y0, y1, y2, n, by simp, hl, by simpa using hf 0 f0 rfl, by simpa using hf 1 f1 rfl, by simpa using hf 2 f2 rfl⟩
theorem trod_struct6 {H : Type} {enc : TypeId × Value → H} {P : Program} {w : World} {base : Nat} {spare : Nat → Bool} {held : Bool} {t : TypeId} {f0 f1 f2 f3 f4 f5 : Field} {fuel : Nat} {cs : List Value} {x : DataW H × List MemPlace} (ht : P.underlying t = some (.struct #[f0, f1, f2, f3, f4, f5])) (h : DataW.trod enc P w base spare held fuel t cs = some x) :
    ∃ y0 y1 y2 y3 y4 y5 n, x.1 = .agg [y0.1, y1.1, y2.1, y3.1, y4.1, y5.1] ∧ cs.length = P.cellsOf t ∧ DataW.trod enc P w base spare held n f0.type ((cs.drop f0.offset).take (P.cellsOf f0.type)) = some y0 ∧
      DataW.trod enc P w base spare held n f1.type ((cs.drop f1.offset).take (P.cellsOf f1.type)) = some y1 ∧ DataW.trod enc P w base spare held n f2.type ((cs.drop f2.offset).take (P.cellsOf f2.type)) = some y2 ∧
      DataW.trod enc P w base spare held n f3.type ((cs.drop f3.offset).take (P.cellsOf f3.type)) = some y3 ∧ DataW.trod enc P w base spare held n f4.type ((cs.drop f4.offset).take (P.cellsOf f4.type)) = some y4 ∧
      DataW.trod enc P w base spare held n f5.type ((cs.drop f5.offset).take (P.cellsOf f5.type)) = some y5 := by
  obtain ⟨xs, n, _, rfl, hl, hlen, hf⟩ := DataW.trod_struct ht h
  obtain ⟨y0, y1, y2, y3, y4, y5, rfl⟩ := list6 (hlen.trans rfl)
  exact ⟨y0, y1, y2, y3, y4, y5, n, by simp, hl, by simpa using hf 0 f0 rfl, by simpa using hf 1 f1 rfl, by simpa using hf 2 f2 rfl, by simpa using hf 3 f3 rfl, by simpa using hf 4 f4 rfl, by simpa using hf 5 f5 rfl⟩
section
variable {H : Type} {enc : TypeId × Value → H} {W : World} {sp : Nat → Bool} {hd : Bool}
def userDat (u : UserD) : DataW H := .agg [.lit (.string u.name), .lit (.string u.id), .lit (.string u.sec)]
theorem int_ofS {fuel : Nat} {c : Value} {y : DataW H × List MemPlace} (h : DataW.trod enc Tryz.prog W 0 sp hd fuel 3 [c] = some y) : ∃ n, c = .int .i64 n ∧ y.1 = .lit (.int .i64 n) := by
  obtain ⟨n, e, e2, _⟩ := DataW.trod_int Tryz.underlying3 h
  exact ⟨n, by simpa using e, by rw [e2]⟩
theorem bool_ofS {fuel : Nat} {c : Value} {y : DataW H × List MemPlace} (h : DataW.trod enc Tryz.prog W 0 sp hd fuel 4 [c] = some y) : ∃ n, c = .bool n ∧ y.1 = .lit (.bool n) := by
  obtain ⟨n, e, e2⟩ := DataW.trod_bool Tryz.underlying4 h
  exact ⟨n, by simpa using e, by rw [e2]⟩
theorem user_of {fuel : Nat} {cs : List Value} {y : DataW H × List MemPlace} (h : DataW.trod enc Tryz.prog W 0 sp hd fuel 26 cs = some y) : ∃ u : UserD, cs = userC u ∧ y.1 = userDat u := by
  obtain ⟨y0, y1, y2, n, hx, hl, g0, g1, g2⟩ := trod_struct3 Tryz.underlying26 h
  have hc : Tryz.prog.cellsOf 26 = 3 := by kernel_rfl
  have hs : Tryz.prog.cellsOf 9 = 1 := by kernel_rfl
  rw [hc] at hl
  obtain ⟨c0, c1, c2, rfl⟩ := list3 hl
  simp only [hs, List.drop_zero, List.drop_succ_cons, List.take_succ_cons, List.take_zero] at g0 g1 g2
  obtain ⟨s0, rfl, x0⟩ := str_of g0
  obtain ⟨s1, rfl, x1⟩ := str_of g1
  obtain ⟨s2, rfl, x2⟩ := str_of g2
  exact ⟨⟨s0, s1, s2⟩, rfl, by rw [hx, x0, x1, x2]; rfl⟩
theorem user_bulk (u : UserD) : Rows.uptoBulk (userDat (H := H) u) = u.name.length + 1 + (u.id.length + 1 + (u.sec.length + 1)) + 1 := by
  simp [userDat, Rows.uptoBulk, Rows.uptoBulkAll]
/-- A slice of pairs that came in. -/
theorem users_of {fuel : Nat} {A : Option Addr} {len cap : Nat} {y : DataW H × List MemPlace} (h : DataW.trod enc Tryz.prog W 0 (fun _ => true) hd fuel 33 [.slice A len cap] = some y) (hB : Rows.uptoBulk y.1 ≤ 1048576) (hz : ∀ x ∈ y.1.weights Tryz.prog 33, x ≤ reachBytes) :
    ∃ ps, UsersAt W A len ps ∧ (∀ p ∈ ps, p.id.length ≤ 1048576 ∧ p.sec.length ≤ 1048576) ∧ len ≤ 1048576 ∧ len ≤ cap ∧ cap ≤ 5000000000000 := by
  have hc : Tryz.prog.cellsOf 26 = 3 := by kernel_rfl
  have hb : Tryz.prog.bytesOf 26 = 48 := by kernel_rfl
  rcases open_slice Tryz.underlying33 h with ⟨hcs, hx⟩ | ⟨a, len', cap', m, n, D, Pl, hcs, _, hl, hm, hmm, rfl, hcell⟩
  · simp at hcs
    obtain ⟨rfl, rfl, rfl⟩ := hcs
    exact ⟨[], ⟨rfl, fun h => absurd h (by omega)⟩, (fun p hp => by cases hp), by omega, by omega, by omega⟩
  · simp at hcs
    obtain ⟨rfl, rfl, rfl⟩ := hcs
    simp only [if_true] at hmm
    subst hmm
    rw [hc] at hcell
    obtain ⟨p, hp⟩ := choose_lt (α := UserD) (p := fun i q => (∀ k v, (userC q)[k]? = some v → W.cell? ((a.add (i * 3)).add k) = some v) ∧ D i = userDat q) (fun i hi => by
      obtain ⟨cs', h1, h2⟩ := hcell i hi
      obtain ⟨_, hlen, hcc⟩ := World.cells?_some h1
      obtain ⟨q, rfl, hq⟩ := user_of h2
      refine ⟨q, fun k v hk => ?_, hq⟩
      have hk3 : k < 3 := by
        have := (List.getElem?_eq_some_iff.1 hk).1
        simpa [userC] using this
      rw [hcc k hk3, hk])
    have hw : ∀ x ∈ ((m * 48) :: (DataW.weightsAll Tryz.prog 26 ((List.range len).map D))), x ≤ reachBytes := by
      intro x hx
      refine hz x ?_
      rw [DataW.weights, Tryz.underlying33]
      simp only [List.length_map, List.length_range, hb, List.mem_cons, List.mem_append] at hx ⊢
      rcases hx with hx | hx
      · left; rw [hx, Nat.add_sub_cancel' hl]
      · right; left; exact hx
    have hcap := hw (m * 48) (by simp)
    unfold reachBytes at hcap
    refine ⟨(List.range len).map p, ⟨by simp, fun h0 => ?_⟩, fun q hq => ?_, by have h9 := bulk_len (H := H) ((List.range len).map D); simp only [Rows.uptoBulk, List.length_map, List.length_range] at h9 hB; omega, hl, by omega⟩
    · have h00 := (hp 0 (by omega)).1 0 _ rfl
      rw [Nat.zero_mul, add_add] at h00
      obtain ⟨g, off, spot⟩ := a
      have hsp : spot = none ∧ g < W.heap.size := by
        unfold Addr.add World.cell? at h00
        simp only [Nat.add_zero, if_true] at h00
        split at h00
        · rename_i c t f hg
          refine ⟨?_, (Array.getElem?_eq_some_iff.1 hg).1⟩
          cases spot with
          | none => rfl
          | some s => simp at h00
        · cases h00
      obtain ⟨rfl, hg⟩ := hsp
      refine ⟨g, off, rfl, hg, fun j hj i v hv => ?_⟩
      have hj' : j < len := by simpa using hj
      have := (hp j (by omega)).1 i v (by simpa using hv)
      rw [add_add] at this
      unfold Addr.add at this
      by_cases h0 : j * 3 + i = 0
      · rw [if_pos h0] at this
        rw [show off + j * 3 + i = off by omega]; exact this
      · rw [if_neg h0] at this
        rw [show off + j * 3 + i = off + (j * 3 + i) by omega]; exact this
    · obtain ⟨i, hi, rfl⟩ := List.mem_map.1 hq
      have hi' : i < len := by simpa using hi
      have h1 := bulk_all (H := H) (List.mem_map.2 ⟨i, hi, rfl⟩ : D i ∈ (List.range len).map D)
      rw [(hp i (by omega)).2, user_bulk] at h1
      have h2 : Rows.uptoBulkAll ((List.range len).map D) ≤ 1048576 := by
        simp only [Rows.uptoBulk] at hB; omega
      omega
set_option maxRecDepth 100000 in
theorem users_open {b0 : Nat} {v : Value} {d : DataW H} {q : List MemPlace} (hv : Value.okWide Tryz.prog W .any b0 33 v) (h : DataW.Trod enc Tryz.prog W 0 (fun _ => true) hd 33 v d q) (hB : Rows.uptoBulk d ≤ 1048576) (hz : ∀ x ∈ d.weights Tryz.prog 33, x ≤ reachBytes) :
    ∃ A n cap ps, v = .slice A n cap ∧ UsersAt W A n ps ∧ (∀ p ∈ ps, p.id.length ≤ 1048576 ∧ p.sec.length ≤ 1048576) ∧ n ≤ 1048576 ∧ n ≤ cap ∧ cap ≤ 5000000000000 := by
  obtain ⟨A, len, cap, rfl⟩ := okWide_slice Tryz.underlying33 hv
  obtain ⟨fuel, hf⟩ := h
  obtain ⟨ps, h1, h2, h3, h4, h5⟩ := users_of hf hB hz
  exact ⟨A, len, cap, ps, rfl, h1, h2, h3, h4, h5⟩
set_option maxRecDepth 100000 in
theorem user_open {b0 : Nat} {v : Value} {d : DataW H} {q : List MemPlace} (hv : Value.okWide Tryz.prog W .any b0 26 v) (h : DataW.Trod enc Tryz.prog W 0 (fun _ => true) hd 26 v d q) : ∃ u : UserD, v = .agg (userC u).toArray ∧ d = userDat u := by
  obtain ⟨cs, rfl, hsz⟩ := okWide_struct Tryz.underlying26 hv
  obtain ⟨fuel, hf⟩ := h
  obtain ⟨u, hp, hd⟩ := user_of hf
  exact ⟨u, by rw [← hp]; rfl, hd⟩
theorem trod_pairs_form {fuel : Nat} {cs : List Value} {y : DataW H × List MemPlace} (h : DataW.trod enc Tryz.prog W 0 sp hd fuel 22 cs = some y) : ∃ A l c, cs = [.slice A l c] := by
  rcases open_slice Tryz.underlying22 h with ⟨hcs, _⟩ | ⟨a', len', cap', m, n, D, Pl, hcs, _⟩
  · exact ⟨_, _, _, hcs⟩
  · exact ⟨_, _, _, hcs⟩
/-- What is known of a request that came in. -/
structure ReqIn (W : World) (r : ReqD) (A : Option Addr) (n cap : Nat) : Prop where
  p : PairsAt W A n r.fs
  c : n ≤ cap
  cap : cap ≤ 9223372036854775807
  tg : r.tg.length ≤ 1048576
  m : r.m.length ≤ 1048576
  hv : heavy r.fs ≤ 1048576
  body : r.body.length ≤ 1048576
set_option maxRecDepth 100000 in
theorem request_open {b0 : Nat} {v : Value} {d : DataW H} {q : List MemPlace} (hv : Value.okWide Tryz.prog W .any b0 24 v) (h : DataW.Trod enc Tryz.prog W 0 (fun _ => true) hd 24 v d q) (hB : Rows.uptoBulk d ≤ 1048576) (hz : ∀ x ∈ d.weights Tryz.prog 24, x ≤ reachBytes) :
    ∃ (r : ReqD) (A : Option Addr) (n cap : Nat), v = .agg (reqC r A n cap).toArray ∧ ReqIn W r A n cap := by
  obtain ⟨cs, rfl, hsz⟩ := okWide_struct Tryz.underlying24 hv
  obtain ⟨fuel, hf⟩ := h
  obtain ⟨y0, y1, y2, y3, y4, y5, n, hx, hl, g0, g1, g2, g3, g4, g5⟩ := trod_struct6 Tryz.underlying24 hf
  have hc : Tryz.prog.cellsOf 24 = 6 := by kernel_rfl
  have hi : Tryz.prog.cellsOf 3 = 1 := by kernel_rfl
  have hs : Tryz.prog.cellsOf 9 = 1 := by kernel_rfl
  have hb : Tryz.prog.cellsOf 4 = 1 := by kernel_rfl
  have hp : Tryz.prog.cellsOf 22 = 1 := by kernel_rfl
  obtain ⟨c0, c1, c2, c3, c4, c5, e⟩ := list6 (l := cs.toList) (by rw [Array.length_toList, hsz, hc])
  simp only [Value.cells, e] at g0 g1 g2 g3 g4 g5
  simp only [hi, hs, hb, hp, List.drop_zero, List.drop_succ_cons, List.take_succ_cons, List.take_zero] at g0 g1 g2 g3 g4 g5
  obtain ⟨s0, rfl, x0⟩ := str_of g0
  obtain ⟨s1, rfl, x1⟩ := str_of g1
  obtain ⟨n2, rfl, x2⟩ := int_ofS g2
  obtain ⟨s4, rfl, x4⟩ := str_of g4
  obtain ⟨b5, rfl, x5⟩ := bool_ofS g5
  obtain ⟨A, l, c, h3⟩ := trod_pairs_form g3
  have h3' : c3 = .slice A l c := by simpa using h3
  subst h3'
  have hx' : d = .agg [y0.1, y1.1, y2.1, y3.1, y4.1, y5.1] := hx
  have hb2 : Rows.uptoBulk y0.1 + (Rows.uptoBulk y1.1 + (Rows.uptoBulk y2.1 + (Rows.uptoBulk y3.1 + (Rows.uptoBulk y4.1 + (Rows.uptoBulk y5.1 + 0))))) + 1 ≤ 1048576 := by
    rw [hx'] at hB
    simpa [Rows.uptoBulk, Rows.uptoBulkAll] using hB
  have k0 : Rows.uptoBulk y0.1 = s0.length + 1 := by rw [x0]; simp [Rows.uptoBulk]
  have k1 : Rows.uptoBulk y1.1 = s1.length + 1 := by rw [x1]; simp [Rows.uptoBulk]
  have k4 : Rows.uptoBulk y4.1 = s4.length + 1 := by rw [x4]; simp [Rows.uptoBulk]
  obtain ⟨ps, h1, h2, h3, h4, h5, h6⟩ := pairs_of g3 (by omega) (fun x hx3 => hz x (by
    rw [hx', DataW.weights, Tryz.underlying24]
    simp only [DataW.weightsEach, List.map_cons, List.mem_append, List.map_nil]
    simp [hx3]))
  refine ⟨⟨s0, s1, n2, ps, s4, b5⟩, A, l, c, ?_, h1, h4, by omega, by show s1.length ≤ _; omega, by show s0.length ≤ _; omega, h6, by show s4.length ≤ _; omega⟩
  rw [show cs = cs.toList.toArray from (Array.toArray_toList).symm, e]
  rfl
end
end Go.Proofs.YtmmoenbmgcplkaaGreatDoor
/- SignNothing in the closing's order. -/
set_option linter.unusedVariables false
namespace Go.Proofs.YtmmoenbmgcplkaaGreatDoor
open Go Go.RowKit
theorem SignNothing_law (r : ReqD) (A : Option Addr) (n c : Nat) (B : Option Addr) (k kc : Nat) (us : List UserD) (now : Int) (rg : List UInt8) (w : World) (h : ReqIn w r A n c) (hu : UsersAt w B k us) (hk : k ≤ 9223372036854775807) (hus : ∀ v ∈ us, v.sec.length ≤ 1048576) (wl : -9223372036854775808 ≤ now) (wh : now ≤ 9223372036854775807) (hr : rg.length ≤ 1048577) (hS : S17 w) :
    Calls Tryz.prog 5 #[.agg (reqC r A n c).toArray, .slice B k kc, .int .i64 now, .string ⟨rg.toArray⟩] w fun e w' => e = .returned (.bool true) ∧ Q w w' :=
  SignNothing_any r A n c B k kc us now rg w h.p h.c h.cap hu hk h.tg h.m h.body h.hv hr hus hS
end Go.Proofs.YtmmoenbmgcplkaaGreatDoor
