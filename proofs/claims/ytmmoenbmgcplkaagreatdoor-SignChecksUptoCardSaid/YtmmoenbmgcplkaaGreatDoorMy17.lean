/- Texts of this proof, laid into one: Sjf, Sjk, VaD, VaI. -/
import Derived.Test.YtmmoenbmgcplkaaGreatDoorMy16
import Derived.Deep.DeepCutAuto
set_option linter.unusedVariables false
set_option linter.unusedSimpArgs false
namespace Go.Proofs.YtmmoenbmgcplkaaGreatDoor
open Go Go.RowKit
theorem heavy_app (ps qs : List PairD) : heavy (ps ++ qs) = heavy ps + heavy qs := by unfold heavy; rw [List.map_append, List.sum_append]
structure LawOk (r : ReqD) (u : UserD) (rg : List UInt8) : Prop where
  tg : r.tg.length ≤ 1048576
  m : r.m.length ≤ 1048576
  hv : heavy r.fs ≤ 1048576
  body : r.body.length ≤ 1048576
  id : u.id.length ≤ 1048577
  sec : u.sec.length ≤ 1048576
  rl : rg.length ≤ 1048577
  both : u.id.length + rg.length ≤ 1048600
theorem LawOk.sign {r : ReqD} {u : UserD} {rg : List UInt8} (h : LawOk r u rg) : SignOk r u rg :=
  ⟨by have := h.tg; omega, by have := h.m; omega, by have := h.hv; unfold heavy at this; omega, by have := h.body; omega, by have := h.id; omega, by have := h.sec; omega, by have := h.rl; omega⟩
theorem heavy_count (ps : List PairD) : 3 * ps.length ≤ heavy ps := by
  unfold heavy
  induction ps with
  | nil => simp
  | cons p t ih => simp only [List.map_cons, List.sum_cons, List.length_cons]; omega
theorem LawOk.chk {r : ReqD} {u : UserD} {now : Int} {rg : List UInt8} {q : ReqD} {c : List UInt8} (h : LawOk r u rg) (hs : SignedQ r u now rg q c) (body : List UInt8) (hb : body.length ≤ 1048576) (us : List UserD) (rg' : List UInt8) (hr : rg'.length ≤ 10000000) (hu : ∀ v ∈ us, v.sec.length ≤ 10000000) : ChkOk { q with body := body } us rg' := by
  have hv := valueL_len u (stampL now) rg c
  have h16 : (stampL now).length = 16 := rfl
  have h64 := hexsha_len r.body
  have hb2 := h.both
  have hc := heavy_count r.fs
  have hh := h.hv
  have efs : q.fs = r.fs ++ [(datedL, stampL now), (bodySumL, hexL (sha r.body))] ++ [(authL, valueL u (stampL now) rg c)] := by rw [hs.e]
  have em : q.m = r.m := by rw [hs.e]
  have et : q.tg = r.tg := by rw [hs.e]
  have l1 : datedL.length = 10 := rfl
  have l2 : bodySumL.length = 20 := rfl
  have l3 : authL.length = 13 := rfl
  refine ⟨⟨?_, ?_, ?_⟩, by show body.length ≤ _; omega, ?_, ?_, hr, hu⟩
  · show q.tg.length ≤ _; rw [et]; have := h.tg; omega
  · show q.m.length ≤ _; rw [em]; have := h.m; omega
  · show heavy q.fs ≤ _
    rw [efs, heavy_app, heavy_app]
    have e1 : heavy [(datedL, stampL now), (bodySumL, hexL (sha r.body))] = datedL.length + (stampL now).length + 3 + (bodySumL.length + (hexL (sha r.body)).length + 3) := by simp [heavy]
    have e2 : heavy [(authL, valueL u (stampL now) rg c)] = authL.length + (valueL u (stampL now) rg c).length + 3 := by simp [heavy]
    rw [e1, e2]; omega
  · intro p hp
    have hp : p ∈ q.fs := hp
    rw [efs] at hp
    simp only [List.mem_append, List.mem_cons, List.not_mem_nil, or_false] at hp
    rcases hp with (hp | rfl | rfl) | rfl
    · have := heavy_mem hp; omega
    · show (stampL now).length ≤ _; omega
    · show (hexL (sha r.body)).length ≤ _; omega
    · show (valueL u (stampL now) rg c).length ≤ _; omega
  · show q.fs.length ≤ _
    rw [efs]; simp only [List.length_append, List.length_cons, List.length_nil]; omega
theorem exOk : LawOk exR exU [114] := ⟨by decide, by decide, by decide, by decide, by decide, by decide, by decide, by decide⟩
theorem exPlainOk : ChkOk exR [exU] [114] := ⟨⟨by decide, by decide, by decide⟩, by decide, by decide, by decide, by decide, by decide⟩
structure Ex17 (w W : World) (N M : Nat) (q : ReqD) (A : Option Addr) (c : Nat) : Prop where
  gr : Q w W
  u : UB W N exU
  r : RB W M q (.slice A 4 c)
  p : PairsAt W A 4 q.fs
theorem Ex17.go {w W W' : World} {N M : Nat} {q : ReqD} {A : Option Addr} {c : Nat} (h : Ex17 w W N M q A c) (hq : Q W W') : Ex17 w W' N M q A c := ⟨h.gr.trans hq, h.u.q hq, h.r.q hq, h.p.q hq⟩
set_option maxRecDepth 100000 in
set_option maxHeartbeats 8000000 in
theorem examples17_any (w : World) (hS : S17 w) : Calls Tryz.prog 9 #[] w fun e w' => e = .returned (.bool true) ∧ Q w w' := by
  obtain ⟨q, cq, hsq, hsg, hck, hck2, hcn, hl4⟩ := ex_all
  have HS := Lib.hid hS
  have HPl := Lib.hid plain_any
  have HSi : Hid (∀ (A : Option Addr) (c : Nat) W, Q w W → PairsAt W A 1 exR.fs → 1 ≤ c → c ≤ 100 → Calls Tryz.prog 10 #[.agg (reqC exR A 1 c).toArray, .agg (userC exU).toArray, .int .i64 1369353600, .string ⟨#[114]⟩] W fun e w' => (∃ A' c', e = .returned (.tuple #[.agg (reqV q (.slice A' 4 c')).toArray, .int .i64 0]) ∧ 4 ≤ c' ∧ c' ≤ 9223372036854775807 ∧ PairsAt w' A' 4 q.fs) ∧ Q W w') := Lib.hid (fun A c W hq hp h1 h2 => by
    have := Sign_any exR A 1 c exU 1369353600 [114] W hp h1 (by omega) exOk.sign (hS.q hq)
    rw [hsq] at this
    refine this.mono ?_
    rintro e w' ⟨v, rfl, ho, hq2⟩
    have hcb := ho
    obtain ⟨A', c', rfl, hc', hp'⟩ := ho.pairs
    have hcap := hcb.capb'
    rw [hl4] at hp' hc' ⊢
    exact ⟨⟨A', c', rfl, hc', hcap, hp'⟩, hq2⟩)
  have HCh : Hid (∀ (A B : Option Addr) (c : Nat) (at_ : Int) (x : UserD × Int) W, Q w W → PairsAt W A 4 q.fs → 4 ≤ c → c ≤ 9223372036854775807 → UsersAt W B 1 [exU] → checkQ q [exU] at_ [114] = x → Calls Tryz.prog 11 #[.agg (reqC q A 4 c).toArray, .slice B 1 1, .int .i64 at_, .string ⟨#[114]⟩] W fun e w' => e = .returned (.tuple #[.agg (userC x.1).toArray, .int .i64 x.2]) ∧ Q W w') := Lib.hid (fun A B c at_ x W hq hp h1 h2 hu hx => by
    have := Check_any q A 4 c B 1 1 [exU] at_ [114] W hp h1 h2 hu (by omega) (exOk.chk hsg q.body (by rw [hsg.e]; show exR.body.length ≤ _; decide) [exU] [114] (by decide) (by decide)) (hS.q hq)
    rw [hx] at this; exact this)
  have HCp : Hid (∀ (A B : Option Addr) (c : Nat) W, Q w W → PairsAt W A 1 exR.fs → 1 ≤ c → c ≤ 100 → UsersAt W B 1 [exU] → Calls Tryz.prog 11 #[.agg (reqC exR A 1 c).toArray, .slice B 1 1, .int .i64 0, .string ⟨#[114]⟩] W fun e w' => e = .returned (.tuple #[.agg (userC zeroU).toArray, .int .i64 71]) ∧ Q W w') := Lib.hid (fun A B c W hq hp h1 h2 hu => by
    have := Check_any exR A 1 c B 1 1 [exU] 0 [114] W hp h1 (by omega) hu (by omega) exPlainOk (hS.q hq)
    rw [ex_none] at this; exact this)
  have HCc : Hid (∀ (A B : Option Addr) (c : Nat) W, Q w W → PairsAt W A 4 q.fs → 4 ≤ c → c ≤ 9223372036854775807 → NmAt W B 1 [hostL] → Calls Tryz.prog 13 #[.agg (reqC q A 4 c).toArray, .slice B 1 1] W fun e w' => e = .returned (.tuple #[.string ⟨exW.toArray⟩, .int .i64 0]) ∧ Q W w') := Lib.hid (fun A B c W hq hp h1 h2 hn => by
    have := Canonical_any q A 4 c B 1 1 [hostL] W hp h1 h2 (exOk.chk hsg q.body (by rw [hsg.e]; show exR.body.length ≤ _; decide) [exU] [114] (by decide) (by decide)).rq hn (by omega) (by omega) (by decide) (hS.q hq)
    rw [hcn] at this; exact this)
  clear hsq hsg hcn hl4 hS
  have HX1 := Lib.hid hck
  have HX2 := Lib.hid hck2
  clear hck hck2
  obtain ⟨qm, qt, qi, qf, qb, qc⟩ := q
  obtain ⟨N, W1, W2, hN, hW1, hl1, hW2, hl2, hq2⟩ := usr_boxes w exU
  have hW1b : w.alloc (.cells #[.string ⟨#[]⟩, .string ⟨#[]⟩, .string ⟨#[]⟩] 26) = W1 := hW1
  have HU := Lib.hid hl2
  have HQ := Lib.hid hq2
  have HN := Lib.hid hN
  clear hl2 hq2
  go_enter Tryz.func9, Tryz.ntmps9
  go_upto_region 2 with (refine wpList_store_row rfl 26 _ _ rfl N (userC exU).toArray (by rfl) (by rfl) 26 _ hl1 (infoUsrS _) rfl (userC_one _) ?_)
  try rw [hW2]
  clear hN hW1 hl1 hW2 hW1b
  refine wp_flo [1] [(0, []), (2, [3, 4, 5])] 6 [7, 8] [[1, 2, 3, 4], [1, 2, 3, 5]] (.cells (reqV zeroR (.slice none 0 0)).toArray 24) (by kernel_rfl) (by kernel_rfl) (fun ρ W => by kernel_rfl) ?_
  simp only [wpCh, opsL, List.map_cons, List.map_nil, Array.getD_eq_getD_getElem?, List.getElem?_toArray, List.getElem?_cons_succ, List.getElem?_cons_zero, Option.getD_some]
  refine wpQuiet_load_row rfl 26 (.tmp 1) rfl N (by rfl) 26 (userC exU).toArray (0, 0) _ (fun w' hw' => by obtain ⟨m, rfl⟩ := hw'; exact HU.out.q ((Q.refl W2).drew.trans m.le)) Tryz.underlying26 rfl (infoUsrS _) ?_
  simp only [Act.put, List.setIfInBounds_toArray, List.set_cons_succ, List.set_cons_zero]
  refine wpQuiet_nil ?_
  obtain ⟨wd, hwd⟩ : ∃ W, W2.drew = W := ⟨_, rfl⟩
  have hqd : Q W2 wd := by rw [← hwd]; exact (Q.refl W2).drew
  rw [hwd]
  have HU := Lib.hid (HU.out.q hqd)
  have HQ := Lib.hid (HQ.out.trans hqd)
  have HUd := HU
  clear hwd hqd
  intro W hW K hK
  have HU := Lib.hid (HU.out.q hW)
  have HQ := Lib.hid (HQ.out.trans hW)
  clear hW
  go_wp2_with fail
  refine (HPl.out W).mono ?_
  rintro e w3 ⟨⟨A, c, rfl, hc1, hc2, hp⟩, hq3⟩
  go_wp2_with fail
  refine hK.out _ _ hq3 ?_
  have HU := Lib.hid (HU.out.q hq3)
  have HQ := Lib.hid (HQ.out.trans hq3)
  have HP := Lib.hid hp
  clear hK K hq3 hp
  refine wpQuiet_nil ?_
  intro W hW K hK
  have HU := Lib.hid (HU.out.q hW)
  have HQ := Lib.hid (HQ.out.trans hW)
  have HP := Lib.hid (HP.out.q hW)
  clear hW
  go_wp2_with fail
  refine (HSi.out A c W HQ.out HP.out hc1 hc2).mono ?_
  rintro e w4 ⟨⟨A', c', rfl, hc4, hcap, hp⟩, hq4⟩
  go_wp2_with fail
  refine hK.out _ _ hq4 ?_
  have HU := Lib.hid (HU.out.q hq4)
  have HQ := Lib.hid (HQ.out.trans hq4)
  have HP := Lib.hid hp
  clear hK K hq4 hp hc1 hc2
  (repeat (go_big_quiet_step (fail)))
  refine wpQuiet_nil ?_
  intro W b hW hb hN2
  have HU := Lib.hid (HU.out.q hW)
  have HQ := Lib.hid (HQ.out.trans hW)
  have HP := Lib.hid (HP.out.q hW)
  have hbw : w.heap.size ≤ b := Nat.le_trans (by have := lt_of_heap HUd.out; have h0 := HN.out; omega) hN2
  have hNb : N ≠ b := by have := lt_of_heap HUd.out; omega
  clear hW hN2 HUd
  simp only [List.map_cons, List.map_nil, Array.getD_eq_getD_getElem?, List.getElem?_toArray, List.getElem?_cons_succ, List.getElem?_cons_zero, Option.getD_some, Act.put, List.setIfInBounds_toArray, List.set_cons_succ, List.set_cons_zero]
  refine wpList_store_row rfl 24 _ _ rfl b (reqV ⟨qm, qt, qi, qf, qb, qc⟩ (.slice A' 4 c')).toArray (by rfl) (by rfl) 24 _ hb (infoReqS _ _) rfl (reqV_one _ _ _ _) ?_
  have hex : Ex17 w (W.setRow b (reqV ⟨qm, qt, qi, qf, qb, qc⟩ (.slice A' 4 c')).toArray) N b ⟨qm, qt, qi, qf, qb, qc⟩ A' c' := by
    refine ⟨Q.setRow HQ.out hbw _, HU.out.rowO hNb _, RB.row (r := zeroR) (v := .slice none 0 0) hb _ _, ?_⟩
    refine ⟨HP.out.1, fun h0 => ?_⟩
    obtain ⟨g', off, e, hlt, hc⟩ := HP.out.2 h0
    have hg : GX [b] W (W.setRow b (reqV ⟨qm, qt, qi, qf, qb, qc⟩ (.slice A' 4 c')).toArray) := (GX.refl _ W).setRow (by simp) _
    refine ⟨g', off, e, Nat.lt_of_lt_of_le hlt hg.size, fun j hj i v hv => ?_⟩
    have hcc := hc j hj i v hv
    by_cases he : g' = b
    · exfalso
      have h7 := hc 3 (by have h4 := HP.out.1; omega) 1 _ rfl
      rw [he, cell_of_row _ _ _ _ _ _ hb] at h7
      simp [reqV, zeroR] at h7
    · have := hg.block g' hlt (by simpa using he)
      unfold World.cell? at hcc ⊢
      rw [this]; exact hcc
  have hq0 : GX [b] W (W.setRow b (reqV ⟨qm, qt, qi, qf, qb, qc⟩ (.slice A' 4 c')).toArray) := (GX.refl _ W).setRow (by simp) _
  generalize W.setRow b (reqV ⟨qm, qt, qi, qf, qb, qc⟩ (.slice A' 4 c')).toArray = W5 at hex hq0 ⊢
  have HX := Lib.hid hex
  clear hex hq0 hb HP HU HQ hbw hNb
  go_wp2_with fail
  refine NoPanic.normal ?_
  obtain ⟨b0, b1, b2, b3, b4, b5⟩ := HX.out.r.c
  have u0 := HX.out.u.c.1
  have u1 := HX.out.u.c.2.1
  have u2 := HX.out.u.c.2.2
  simp only at b0 b1 b2 b3 b4 b5
  simp only [exU] at u0 u1 u2
  obtain ⟨V3, hV3⟩ : ∃ X, W5.alloc (.cells ([exU].flatMap userC).toArray 26) = X := ⟨_, rfl⟩
  have hus : UsersAt V3 (some ⟨W5.heap.size, 0, none⟩) 1 [exU] := by rw [← hV3]; exact UsersAt.lit W5 [exU] 1 rfl
  have hqv : Q W5 V3 := by rw [← hV3]; exact (Q.refl _).alloc _
  have hV3b : W5.alloc (.cells #[.string ⟨#[110]⟩, .string ⟨#[65]⟩, .string ⟨#[115]⟩] 26) = V3 := hV3
  obtain ⟨g3, hg3⟩ : ∃ g, W5.heap.size = g := ⟨_, rfl⟩
  rw [hg3] at hus
  have HX := Lib.hid (HX.out.go hqv)
  have HUS := Lib.hid hus
  clear hus hqv hV3
  go_wp2_with fail
  refine (HCh.out A' (some ⟨g3, 0, none⟩) c' 1369353600 _ V3 HX.out.gr HX.out.p hc4 hcap HUS.out HX1.out).mono ?_
  rintro e y3 ⟨rfl, hqy⟩
  have HX := Lib.hid (HX.out.go hqy)
  clear hqy hV3b hg3 b0 b1 b2 b3 b4 b5 u0 u1 u2 HUS
  obtain ⟨M3, Y1, Y2, hM, hY1, hl1, hY2, hl2, hq2⟩ := usr_boxes y3 exU
  have hY1b : y3.alloc (.cells #[.string ⟨#[]⟩, .string ⟨#[]⟩, .string ⟨#[]⟩] 26) = Y1 := hY1
  have HX := Lib.hid (HX.out.go hq2)
  have HU3 := Lib.hid hl2
  clear hl2 hq2
  go_upto_region 4 with (refine wpList_store_row rfl 26 _ _ rfl M3 (userC exU).toArray (by rfl) (by rfl) 26 _ hl1 (infoUsrS _) rfl (userC_one _) ?_)
  try rw [hY2]
  clear hM hY1 hl1 hY2 hY1b
  refine wp_flo2 [1] 0 2 [(3, [4, 5, 6])] 7 [8, 9] [[1, 2, 3, 4, 5], [1, 2, 3, 4, 6]] (.cells (userC zeroU).toArray 26) (by kernel_rfl) (by kernel_rfl) (fun ρ W => by kernel_rfl) ?_
  simp only [wpCh, opsL, List.map_cons, List.map_nil, Array.getD_eq_getD_getElem?, List.getElem?_toArray, List.getElem?_cons_succ, List.getElem?_cons_zero, Option.getD_some]
  refine wpQuiet_load_row rfl 26 (.tmp 1) rfl N (by rfl) 26 (userC exU).toArray (0, 0) _ (fun w' hw' => by obtain ⟨m, rfl⟩ := hw'; exact HX.out.u.q ((Q.refl Y2).drew.trans m.le)) Tryz.underlying26 rfl (infoUsrS _) ?_
  simp only [Act.put, List.setIfInBounds_toArray, List.set_cons_succ, List.set_cons_zero]
  simp only [userC, exU]
  refine wpQuiet_nil ?_
  obtain ⟨wd, hwd⟩ : ∃ W, Y2.drew = W := ⟨_, rfl⟩
  have hqd : Q Y2 wd := by rw [← hwd]; exact (Q.refl Y2).drew
  rw [hwd]
  have HX := Lib.hid (HX.out.go hqd)
  have HU3 := Lib.hid (HU3.out.q hqd)
  clear hwd hqd
  have HUd := HU3
  have HXd := HX
  have HQd : Hid (Q wd wd) := Lib.hid (Q.refl wd)
  refine ⟨?_, ?_⟩
  · intro W hW K hK
    have HX := Lib.hid (HX.out.go hW)
    have HQd := Lib.hid (HQd.out.trans hW)
    clear hW
    go_wp2_with fail
    refine (HPl.out W).mono ?_
    rintro e z3 ⟨⟨Ap, cp, rfl, hp1, hp2, hpp⟩, hq3⟩
    go_wp2_with fail
    refine hK.out _ _ hq3 ?_
    have HX := Lib.hid (HX.out.go hq3)
    have HQd := Lib.hid (HQd.out.trans hq3)
    have HPp := Lib.hid hpp
    clear hK K hq3 hpp
    refine wpQuiet_nil ?_
    intro W hW K hK
    have HX := Lib.hid (HX.out.go hW)
    have HQd := Lib.hid (HQd.out.trans hW)
    have HPp := Lib.hid (HPp.out.q hW)
    clear hW
    go_wp2_with fail
    obtain ⟨V4, hV4⟩ : ∃ X, W.alloc (.cells ([exU].flatMap userC).toArray 26) = X := ⟨_, rfl⟩
    have hus : UsersAt V4 (some ⟨W.heap.size, 0, none⟩) 1 [exU] := by rw [← hV4]; exact UsersAt.lit W [exU] 1 rfl
    have hqv : Q W V4 := by rw [← hV4]; exact (Q.refl _).alloc _
    have hV4b : W.alloc (.cells #[.string ⟨#[110]⟩, .string ⟨#[65]⟩, .string ⟨#[115]⟩] 26) = V4 := hV4
    obtain ⟨g4, hg4⟩ : ∃ g, W.heap.size = g := ⟨_, rfl⟩
    rw [hg4] at hus
    try simp only [userC, exU]
    try rw [hV4b]
    try rw [hg4]
    refine hK.out _ _ hqv ?_
    have HX := Lib.hid (HX.out.go hqv)
    have HQd := Lib.hid (HQd.out.trans hqv)
    have HPp := Lib.hid (HPp.out.q hqv)
    have HUS := Lib.hid hus
    clear hK K hqv hus hV4 hV4b hg4
    refine wpQuiet_nil ?_
    intro W hW K hK
    have HX := Lib.hid (HX.out.go hW)
    have HQd := Lib.hid (HQd.out.trans hW)
    have HPp := Lib.hid (HPp.out.q hW)
    have HUS := Lib.hid (HUS.out.q hW)
    clear hW
    go_wp2_with fail
    refine (HCp.out Ap (some ⟨g4, 0, none⟩) cp W HX.out.gr HPp.out hp1 hp2 HUS.out).mono ?_
    rintro e y4 ⟨rfl, hqy⟩
    go_wp2_with fail
    refine hK.out _ _ hqy ?_
    have HX := Lib.hid (HX.out.go hqy)
    have HQd := Lib.hid (HQd.out.trans hqy)
    clear hK K hqy hp1 hp2 HPp HUS
    (repeat (go_big_quiet_step (fail)))
    refine wpQuiet_nil ?_
    intro W bb hW hb hN2
    have HQd := Lib.hid (HQd.out.trans hW)
    have hex2 : Ex17 w (W.setRow bb (userC zeroU).toArray) N b ⟨qm, qt, qi, qf, qb, qc⟩ A' c' := HXd.out.go (Q.setRow HQd.out hN2 _)
    have hu3 : UB (W.setRow bb (userC zeroU).toArray) M3 exU := HUd.out.q (Q.setRow HQd.out hN2 _)
    clear hW hN2 HX HU3
    simp only [List.map_cons, List.map_nil, Array.getD_eq_getD_getElem?, List.getElem?_toArray, List.getElem?_cons_succ, List.getElem?_cons_zero, Option.getD_some, Act.put, List.setIfInBounds_toArray, List.set_cons_succ, List.set_cons_zero]
    refine wpList_store_row rfl 26 _ _ rfl bb (userC zeroU).toArray (by rfl) (by rfl) 26 _ hb (infoUsrS _) rfl (userC_one _) ?_
    generalize W.setRow bb (userC zeroU).toArray = Y4 at hex2 hu3 ⊢
    have HX := Lib.hid hex2
    have HU3 := Lib.hid hu3
    clear hex2 hu3 hb HXd HUd HQd
    go_wp2_with fail
    refine NoPanic.normal ?_
    obtain ⟨b0, b1, b2, b3, b4, b5⟩ := HX.out.r.c
    have u0 := HX.out.u.c.1
    have u1 := HX.out.u.c.2.1
    have u2 := HX.out.u.c.2.2
    simp only at b0 b1 b2 b3 b4 b5
    simp only [exU] at u0 u1 u2
    obtain ⟨V5, hV5⟩ : ∃ X, Y4.alloc (.cells ([exU].flatMap userC).toArray 26) = X := ⟨_, rfl⟩
    have hus : UsersAt V5 (some ⟨Y4.heap.size, 0, none⟩) 1 [exU] := by rw [← hV5]; exact UsersAt.lit Y4 [exU] 1 rfl
    have hqv : Q Y4 V5 := by rw [← hV5]; exact (Q.refl _).alloc _
    have hV5b : Y4.alloc (.cells #[.string ⟨#[110]⟩, .string ⟨#[65]⟩, .string ⟨#[115]⟩] 26) = V5 := hV5
    obtain ⟨g5, hg5⟩ : ∃ g, Y4.heap.size = g := ⟨_, rfl⟩
    rw [hg5] at hus
    have HX := Lib.hid (HX.out.go hqv)
    have HUS := Lib.hid hus
    have HU3 := Lib.hid (HU3.out.q hqv)
    clear hus hqv hV5
    go_wp2_with fail
    refine (HCh.out A' (some ⟨g5, 0, none⟩) c' 1369354501 _ V5 HX.out.gr HX.out.p hc4 hcap HUS.out HX2.out).mono ?_
    rintro e y5 ⟨rfl, hqy⟩
    have HX := Lib.hid (HX.out.go hqy)
    have HU3 := Lib.hid (HU3.out.q hqy)
    clear hqy hV5b hg5 b0 b1 b2 b3 b4 b5 u0 u1 u2 HUS
    obtain ⟨M5, Y1, Y2, hM, hY1, hl1, hY2, hl2, hq2⟩ := usr_boxes y5 zeroU
    have hY1b : y5.alloc (.cells #[.string ⟨#[]⟩, .string ⟨#[]⟩, .string ⟨#[]⟩] 26) = Y1 := hY1
    have HX := Lib.hid (HX.out.go hq2)
    have HU5 := Lib.hid hl2
    have HU3 := Lib.hid (HU3.out.q hq2)
    clear hl2 hq2
    go_upto_region 6 with (refine wpList_store_row rfl 26 _ _ rfl M5 (userC zeroU).toArray (by rfl) (by rfl) 26 _ hl1 (infoUsrS _) rfl (userC_one _) ?_)
    try rw [hY2]
    clear hM hY1 hl1 hY2 hY1b
    obtain ⟨b0, b1, b2, b3, b4, b5⟩ := HX.out.r.c
    simp only at b0 b1 b2 b3 b4 b5
    obtain ⟨V6, hV6⟩ : ∃ X, Y2.alloc (.cells ([hostL].map strV).toArray 9) = X := ⟨_, rfl⟩
    have hns : NmAt V6 (some ⟨Y2.heap.size, 0, none⟩) 1 [hostL] := by rw [← hV6]; exact NmAt.lit [hostL] Y2 _
    have hqv : Q Y2 V6 := by rw [← hV6]; exact (Q.refl _).alloc _
    have hV6b : Y2.alloc (.cells #[.string ⟨#[104, 111, 115, 116]⟩] 9) = V6 := hV6
    obtain ⟨g6, hg6⟩ : ∃ g, Y2.heap.size = g := ⟨_, rfl⟩
    rw [hg6] at hns
    have HX := Lib.hid (HX.out.go hqv)
    have HU3 := Lib.hid (HU3.out.q hqv)
    have HNS := Lib.hid hns
    clear hns hqv hV6
    go_wp2_with fail
    refine (HCc.out A' (some ⟨g6, 0, none⟩) c' V6 HX.out.gr HX.out.p hc4 hcap HNS.out).mono ?_
    rintro e y6 ⟨rfl, hqy⟩
    have HX := Lib.hid (HX.out.go hqy)
    have HU3 := Lib.hid (HU3.out.q hqy)
    clear hqy hV6b hg6 b0 b1 b2 b3 b4 b5 HNS
    have c3 := HX.out.r.c.2.2.2.1
    have u0 := HX.out.u.c.1
    have u1 := HX.out.u.c.2.1
    have u2 := HX.out.u.c.2.2
    have v0 := HU3.out.c.1
    have v1 := HU3.out.c.2.1
    have v2 := HU3.out.c.2.2
    simp only [exU] at u0 u1 u2 v0 v1 v2
    have qe : (exW == [71, 69, 84, 10, 47, 98, 47, 107, 10, 97, 61, 38, 122, 61, 49, 10, 104, 111, 115, 116, 58, 104, 10, 10, 104, 111, 115, 116, 10, 101, 51, 98, 48, 99, 52, 52, 50, 57, 56, 102, 99, 49, 99, 49, 52, 57, 97, 102, 98, 102, 52, 99, 56, 57, 57, 54, 102, 98, 57, 50, 52, 50, 55, 97, 101, 52, 49, 101, 52, 54, 52, 57, 98, 57, 51, 52, 99, 97, 52, 57, 53, 57, 57, 49, 98, 55, 56, 53, 50, 98, 56, 53, 53]) = true := by decide +kernel
    generalize exW = EW at qe ⊢
    go_wp2_with fail
    go_ret
    exact ⟨rfl, HX.out.gr⟩
  · intro W hW K hK
    have HX := Lib.hid (HX.out.go hW)
    have HQd := Lib.hid (HQd.out.trans hW)
    clear hW
    go_wp2_with fail
    obtain ⟨V4, hV4⟩ : ∃ X, W.alloc (.cells ([exU].flatMap userC).toArray 26) = X := ⟨_, rfl⟩
    have hus : UsersAt V4 (some ⟨W.heap.size, 0, none⟩) 1 [exU] := by rw [← hV4]; exact UsersAt.lit W [exU] 1 rfl
    have hqv : Q W V4 := by rw [← hV4]; exact (Q.refl _).alloc _
    have hV4b : W.alloc (.cells #[.string ⟨#[110]⟩, .string ⟨#[65]⟩, .string ⟨#[115]⟩] 26) = V4 := hV4
    obtain ⟨g4, hg4⟩ : ∃ g, W.heap.size = g := ⟨_, rfl⟩
    rw [hg4] at hus
    try simp only [userC, exU]
    try rw [hV4b]
    try rw [hg4]
    refine hK.out _ _ hqv ?_
    have HX := Lib.hid (HX.out.go hqv)
    have HQd := Lib.hid (HQd.out.trans hqv)
    have HUS := Lib.hid hus
    clear hK K hqv hus hV4 hV4b hg4
    refine wpQuiet_nil ?_
    intro W hW K hK
    have HX := Lib.hid (HX.out.go hW)
    have HQd := Lib.hid (HQd.out.trans hW)
    have HUS := Lib.hid (HUS.out.q hW)
    clear hW
    go_wp2_with fail
    refine (HPl.out W).mono ?_
    rintro e z3 ⟨⟨Ap, cp, rfl, hp1, hp2, hpp⟩, hq3⟩
    go_wp2_with fail
    refine hK.out _ _ hq3 ?_
    have HX := Lib.hid (HX.out.go hq3)
    have HQd := Lib.hid (HQd.out.trans hq3)
    have HPp := Lib.hid hpp
    have HUS := Lib.hid (HUS.out.q hq3)
    clear hK K hq3 hpp
    refine wpQuiet_nil ?_
    intro W hW K hK
    have HX := Lib.hid (HX.out.go hW)
    have HQd := Lib.hid (HQd.out.trans hW)
    have HPp := Lib.hid (HPp.out.q hW)
    have HUS := Lib.hid (HUS.out.q hW)
    clear hW
    go_wp2_with fail
    refine (HCp.out Ap (some ⟨g4, 0, none⟩) cp W HX.out.gr HPp.out hp1 hp2 HUS.out).mono ?_
    rintro e y4 ⟨rfl, hqy⟩
    go_wp2_with fail
    refine hK.out _ _ hqy ?_
    have HX := Lib.hid (HX.out.go hqy)
    have HQd := Lib.hid (HQd.out.trans hqy)
    clear hK K hqy hp1 hp2 HPp HUS
    (repeat (go_big_quiet_step (fail)))
    refine wpQuiet_nil ?_
    intro W bb hW hb hN2
    have HQd := Lib.hid (HQd.out.trans hW)
    have hex2 : Ex17 w (W.setRow bb (userC zeroU).toArray) N b ⟨qm, qt, qi, qf, qb, qc⟩ A' c' := HXd.out.go (Q.setRow HQd.out hN2 _)
    have hu3 : UB (W.setRow bb (userC zeroU).toArray) M3 exU := HUd.out.q (Q.setRow HQd.out hN2 _)
    clear hW hN2 HX HU3
    simp only [List.map_cons, List.map_nil, Array.getD_eq_getD_getElem?, List.getElem?_toArray, List.getElem?_cons_succ, List.getElem?_cons_zero, Option.getD_some, Act.put, List.setIfInBounds_toArray, List.set_cons_succ, List.set_cons_zero]
    refine wpList_store_row rfl 26 _ _ rfl bb (userC zeroU).toArray (by rfl) (by rfl) 26 _ hb (infoUsrS _) rfl (userC_one _) ?_
    generalize W.setRow bb (userC zeroU).toArray = Y4 at hex2 hu3 ⊢
    have HX := Lib.hid hex2
    have HU3 := Lib.hid hu3
    clear hex2 hu3 hb HXd HUd HQd
    go_wp2_with fail
    refine NoPanic.normal ?_
    obtain ⟨b0, b1, b2, b3, b4, b5⟩ := HX.out.r.c
    have u0 := HX.out.u.c.1
    have u1 := HX.out.u.c.2.1
    have u2 := HX.out.u.c.2.2
    simp only at b0 b1 b2 b3 b4 b5
    simp only [exU] at u0 u1 u2
    obtain ⟨V5, hV5⟩ : ∃ X, Y4.alloc (.cells ([exU].flatMap userC).toArray 26) = X := ⟨_, rfl⟩
    have hus : UsersAt V5 (some ⟨Y4.heap.size, 0, none⟩) 1 [exU] := by rw [← hV5]; exact UsersAt.lit Y4 [exU] 1 rfl
    have hqv : Q Y4 V5 := by rw [← hV5]; exact (Q.refl _).alloc _
    have hV5b : Y4.alloc (.cells #[.string ⟨#[110]⟩, .string ⟨#[65]⟩, .string ⟨#[115]⟩] 26) = V5 := hV5
    obtain ⟨g5, hg5⟩ : ∃ g, Y4.heap.size = g := ⟨_, rfl⟩
    rw [hg5] at hus
    have HX := Lib.hid (HX.out.go hqv)
    have HUS := Lib.hid hus
    have HU3 := Lib.hid (HU3.out.q hqv)
    clear hus hqv hV5
    go_wp2_with fail
    refine (HCh.out A' (some ⟨g5, 0, none⟩) c' 1369354501 _ V5 HX.out.gr HX.out.p hc4 hcap HUS.out HX2.out).mono ?_
    rintro e y5 ⟨rfl, hqy⟩
    have HX := Lib.hid (HX.out.go hqy)
    have HU3 := Lib.hid (HU3.out.q hqy)
    clear hqy hV5b hg5 b0 b1 b2 b3 b4 b5 u0 u1 u2 HUS
    obtain ⟨M5, Y1, Y2, hM, hY1, hl1, hY2, hl2, hq2⟩ := usr_boxes y5 zeroU
    have hY1b : y5.alloc (.cells #[.string ⟨#[]⟩, .string ⟨#[]⟩, .string ⟨#[]⟩] 26) = Y1 := hY1
    have HX := Lib.hid (HX.out.go hq2)
    have HU5 := Lib.hid hl2
    have HU3 := Lib.hid (HU3.out.q hq2)
    clear hl2 hq2
    go_upto_region 6 with (refine wpList_store_row rfl 26 _ _ rfl M5 (userC zeroU).toArray (by rfl) (by rfl) 26 _ hl1 (infoUsrS _) rfl (userC_one _) ?_)
    try rw [hY2]
    clear hM hY1 hl1 hY2 hY1b
    obtain ⟨b0, b1, b2, b3, b4, b5⟩ := HX.out.r.c
    simp only at b0 b1 b2 b3 b4 b5
    obtain ⟨V6, hV6⟩ : ∃ X, Y2.alloc (.cells ([hostL].map strV).toArray 9) = X := ⟨_, rfl⟩
    have hns : NmAt V6 (some ⟨Y2.heap.size, 0, none⟩) 1 [hostL] := by rw [← hV6]; exact NmAt.lit [hostL] Y2 _
    have hqv : Q Y2 V6 := by rw [← hV6]; exact (Q.refl _).alloc _
    have hV6b : Y2.alloc (.cells #[.string ⟨#[104, 111, 115, 116]⟩] 9) = V6 := hV6
    obtain ⟨g6, hg6⟩ : ∃ g, Y2.heap.size = g := ⟨_, rfl⟩
    rw [hg6] at hns
    have HX := Lib.hid (HX.out.go hqv)
    have HU3 := Lib.hid (HU3.out.q hqv)
    have HNS := Lib.hid hns
    clear hns hqv hV6
    go_wp2_with fail
    refine (HCc.out A' (some ⟨g6, 0, none⟩) c' V6 HX.out.gr HX.out.p hc4 hcap HNS.out).mono ?_
    rintro e y6 ⟨rfl, hqy⟩
    have HX := Lib.hid (HX.out.go hqy)
    have HU3 := Lib.hid (HU3.out.q hqy)
    clear hqy hV6b hg6 b0 b1 b2 b3 b4 b5 HNS
    have c3 := HX.out.r.c.2.2.2.1
    have u0 := HX.out.u.c.1
    have u1 := HX.out.u.c.2.1
    have u2 := HX.out.u.c.2.2
    have v0 := HU3.out.c.1
    have v1 := HU3.out.c.2.1
    have v2 := HU3.out.c.2.2
    simp only [exU] at u0 u1 u2 v0 v1 v2
    have qe : (exW == [71, 69, 84, 10, 47, 98, 47, 107, 10, 97, 61, 38, 122, 61, 49, 10, 104, 111, 115, 116, 58, 104, 10, 10, 104, 111, 115, 116, 10, 101, 51, 98, 48, 99, 52, 52, 50, 57, 56, 102, 99, 49, 99, 49, 52, 57, 97, 102, 98, 102, 52, 99, 56, 57, 57, 54, 102, 98, 57, 50, 52, 50, 55, 97, 101, 52, 49, 101, 52, 54, 52, 57, 98, 57, 51, 52, 99, 97, 52, 57, 53, 57, 57, 49, 98, 55, 56, 53, 50, 98, 56, 53, 53]) = true := by decide +kernel
    generalize exW = EW at qe ⊢
    go_wp2_with fail
    go_ret
    exact ⟨rfl, HX.out.gr⟩
end Go.Proofs.YtmmoenbmgcplkaaGreatDoor
set_option linter.unusedVariables false
set_option linter.unusedSimpArgs false
namespace Go.Proofs.YtmmoenbmgcplkaaGreatDoor
open Go Go.RowKit
theorem rq_boxes (w : World) (r : ReqD) (v : Value) : ∃ M W W', w.heap.size = M ∧ w.alloc (.cells (reqV zeroR (.slice none 0 0)).toArray 24) = W ∧ RB W M zeroR (.slice none 0 0) ∧ W.setRow M (reqV r v).toArray = W' ∧ RB W' M r v ∧ Q w W' := by
  refine ⟨w.heap.size, _, _, rfl, rfl, heap_alloc_new w _, rfl, ?_, Q.setRow ((Q.refl w).alloc _) (Nat.le_refl _) _⟩
  exact RB.row (r := zeroR) (v := .slice none 0 0) (heap_alloc_new w _) r v
structure Bk17 (w W : World) (N M : Nat) (u : UserD) (q : ReqD) (A : Option Addr) (L c : Nat) : Prop where
  gr : Q w W
  u : UB W N u
  r : RB W M q (.slice A L c)
  p : PairsAt W A L q.fs
theorem Bk17.go {w W W' : World} {N M : Nat} {u : UserD} {q : ReqD} {A : Option Addr} {L c : Nat} (h : Bk17 w W N M u q A L c) (hq : Q W W') : Bk17 w W' N M u q A L c := ⟨h.gr.trans hq, h.u.q hq, h.r.q hq, h.p.q hq⟩
def us1 (u : UserD) : List UserD := [⟨[], u.id ++ [120], []⟩]
end Go.Proofs.YtmmoenbmgcplkaaGreatDoor
set_option linter.unusedVariables false
set_option linter.unusedSimpArgs false
namespace Go.Proofs.YtmmoenbmgcplkaaGreatDoor
open Go Go.RowKit
def hexV (b : UInt8) : Int := if digV b ≤ 15 then (digV b : Int) else -1
theorem hex_facts : ∀ b : UInt8, hexV b = (if 48 ≤ b.toNat ∧ b.toNat ≤ 57 then (b.toNat : Int) - 48 else if 65 ≤ b.toNat ∧ b.toNat ≤ 70 then (b.toNat : Int) - 65 + 10 else if 97 ≤ b.toNat ∧ b.toNat ≤ 102 then (b.toNat : Int) - 97 + 10 else -1) := by
  have h : ∀ n : Fin 256, hexV n.val.toUInt8 = (if 48 ≤ n.val.toUInt8.toNat ∧ n.val.toUInt8.toNat ≤ 57 then (n.val.toUInt8.toNat : Int) - 48 else if 65 ≤ n.val.toUInt8.toNat ∧ n.val.toUInt8.toNat ≤ 70 then (n.val.toUInt8.toNat : Int) - 65 + 10 else if 97 ≤ n.val.toUInt8.toNat ∧ n.val.toUInt8.toNat ≤ 102 then (n.val.toUInt8.toNat : Int) - 97 + 10 else -1) := by decide +kernel
  intro b
  have := h ⟨b.toNat, b.toNat_lt⟩
  simpa using this
def hexAt (l : List UInt8) (i : Nat) : Int := if i < l.length then hexV (gB l i) else -1
theorem hexV_bd (b : UInt8) : -1 ≤ hexV b ∧ hexV b ≤ 15 ∧ (0 ≤ hexV b ↔ digV b ≤ 15) ∧ (digV b ≤ 15 → hexV b = digV b) := by
  unfold hexV; split <;> simp_all <;> omega
def rdecOut (l : List UInt8) : List UInt8 × Int := match (decR l).2 with | none => ((decR l).1, -1) | some k => ([], (k : Int))
set_option maxRecDepth 100000 in
set_option maxHeartbeats 4000000 in
theorem RFree_any (b : UInt8) (w : World) :
    Calls Tryz.prog 86 #[.int .u8 b.toNat] w fun e w' => e = .returned (.bool (freeL true b)) ∧ w' = w := by
  have hf : (freeL true b = true) = (65 ≤ b.toNat ∧ b.toNat ≤ 90 ∨ 97 ≤ b.toNat ∧ b.toNat ≤ 122 ∨ 48 ≤ b.toNat ∧ b.toNat ≤ 57 ∨ b.toNat = 45 ∨ b.toNat = 46 ∨ b.toNat = 95 ∨ b.toNat = 126) := by
    have h : ∀ n : Fin 256, (freeL true n.val.toUInt8 = true) = (65 ≤ n.val.toUInt8.toNat ∧ n.val.toUInt8.toNat ≤ 90 ∨ 97 ≤ n.val.toUInt8.toNat ∧ n.val.toUInt8.toNat ≤ 122 ∨ 48 ≤ n.val.toUInt8.toNat ∧ n.val.toUInt8.toNat ≤ 57 ∨ n.val.toUInt8.toNat = 45 ∨ n.val.toUInt8.toNat = 46 ∨ n.val.toUInt8.toNat = 95 ∨ n.val.toUInt8.toNat = 126) := by
      have h2 : ∀ n : Fin 256, (freeL true n.val.toUInt8 = true) ↔ (65 ≤ n.val.toUInt8.toNat ∧ n.val.toUInt8.toNat ≤ 90 ∨ 97 ≤ n.val.toUInt8.toNat ∧ n.val.toUInt8.toNat ≤ 122 ∨ 48 ≤ n.val.toUInt8.toNat ∧ n.val.toUInt8.toNat ≤ 57 ∨ n.val.toUInt8.toNat = 45 ∨ n.val.toUInt8.toNat = 46 ∨ n.val.toUInt8.toNat = 95 ∨ n.val.toUInt8.toNat = 126) := by decide +kernel
      exact fun n => propext (h2 n)
    have := h ⟨b.toNat, b.toNat_lt⟩
    simp only [UInt8.ofNat_toNat, Nat.toUInt8_eq] at this
    exact this
  have HF := Lib.hid hf
  clear hf
  generalize hn : b.toNat = n at HF
  have hb : n < 256 := by rw [← hn]; exact b.toNat_lt
  go_enter Tryz.func86, Tryz.ntmps86
  go_wp2_with fail
  all_goals
    go_ret
    refine ⟨?_, rfl⟩
    show Ending.returned (.bool _) = .returned (.bool _)
    refine congrArg _ (congrArg _ ?_)
    rw [Bool.eq_iff_iff, HF.out]
    try simp only [Bool.or_eq_true, Bool.and_eq_true, decide_eq_true_eq, beq_iff_eq, true_iff, iff_true, Bool.true_or, Bool.or_true, Bool.false_or, Bool.or_false, Bool.true_and, Bool.false_and, Bool.and_true, Bool.and_false, reduceCtorEq, false_iff, iff_false]
    try omega
theorem RDigit_any (l : List UInt8) (i : Nat) (w : World) (hl : l.length ≤ 100000000) (hi : i ≤ 100000010) :
    Calls Tryz.prog 132 #[.string ⟨l.toArray⟩, .int .i64 (i : Int)] w fun e w' => e = .returned (.int .i64 (hexAt l i)) ∧ w' = w := by
  by_cases h : i < l.length
  · have h1 : decide (l.length ≤ i) = false := by simp; omega
    have HX : Hid (hexAt l i = hexV (gB l i)) := Lib.hid (by unfold hexAt; rw [if_pos h])
    have HF := Lib.hid (hex_facts (gB l i))
    have hb := (gB l i).toNat_lt
    go_enter Tryz.func132, Tryz.ntmps132
    go_wp2_with fail
    all_goals
      go_ret
      refine ⟨?_, rfl⟩
      rw [HX.out, HF.out]
      show Ending.returned (.int .i64 _) = .returned (.int .i64 _)
      refine ret_int ?_
      first | omega | (repeat' split) <;> omega
  · have HX : Hid (hexAt l i = -1) := Lib.hid (by unfold hexAt; rw [if_neg h])
    have h1 : decide (l.length ≤ i) = true := by simp; omega
    go_enter Tryz.func132, Tryz.ntmps132
    go_wp2_with fail
    all_goals
      go_ret
      exact ⟨by rw [HX.out]; rfl, rfl⟩
set_option maxRecDepth 100000 in
set_option maxHeartbeats 4000000 in
theorem REncode_any (l : List UInt8) (sl : Bool) (w : World) (hl : l.length ≤ 100000000) :
    Calls Tryz.prog 38 #[.string ⟨l.toArray⟩, .bool sl] w fun e w' => e = .returned (.string ⟨(encL sl l).toArray⟩) ∧ Q w w' := by
  go_enter Tryz.func38, Tryz.ntmps38
  go_wp2_with fail
  go_loopw [5, 6] (fun v i wr => ∃ k : Nat, k ≤ l.length ∧ i = .int .i64 k ∧ OwnB w wr v (encL sl (l.take k)) ∧ Q w wr) (fun _ i _ => l.length - (intOf i).toNat)
  case atStart => exact ⟨0, by omega, rfl, OwnB.nil _ _, Q.refl _⟩
  case round =>
    obtain ⟨k, hk, rfl, hO, hq⟩ := hrel
    by_cases hlt : k < l.length
    · have hd : decide (k < l.length) = true := by simpa using hlt
      have HT : Hid (encL sl (l.take (k + 1)) = encL sl (l.take k) ++ encB sl (gB l k)) := by rw [take_snocB l k hlt]; exact Lib.hid (encL_snoc _ _ _)
      have HE := Lib.hid (encL_le sl (l.take k))
      have HLT : Hid ((l.take k).length ≤ 100000000) := Lib.hid (by rw [List.length_take]; omega)
      generalize encL sl (l.take k) = F at *
      have hcn := (gB l k).toNat_lt
      have HO := Lib.hid hO
      have HQ := Lib.hid hq
      clear hO hq
      have hfl : freeL sl (gB l k) = (freeL true (gB l k) || ((gB l k) == 47 && !sl)) := by unfold freeL; cases sl <;> simp
      have HFL := Lib.hid hfl
      clear hfl
      have HPlain : Hid (freeL sl (gB l k) = true → encL sl (l.take (k + 1)) = F ++ [gB l k]) := Lib.hid (fun h => by rw [HT.out]; unfold encB; rw [if_pos h])
      have HEsc : Hid (freeL sl (gB l k) = false → encL sl (l.take (k + 1)) = F ++ [37, gB capsL ((gB l k).toNat / 16), gB capsL ((gB l k).toNat % 16)]) := Lib.hid (fun h => by rw [HT.out]; unfold encB escL; rw [h]; rfl)
      obtain ⟨B, hB⟩ : ∃ B, gB l k = B := ⟨_, rfl⟩
      rw [hB] at HT HFL HPlain HEsc hcn
      have HTR : Hid (encL sl (l.take (k + 1)) = F ++ (if freeL true B = true ∨ (B = 47 ∧ sl = false) then [B] else [37, gB capsL (B.toNat / 16), gB capsL (B.toNat % 16)])) := Lib.hid (by
        rw [HT.out]; unfold encB escL; rw [HFL.out]
        rcases freeL true B with _ | _ <;> rcases sl with _ | _ <;> simp)
      clear HPlain HEsc HT HFL
      go_upto_region 5 with (fail)
      go_wp2_with fail
      refine (RFree_any _ _).mono ?_
      rintro e wx ⟨rfl, rfl⟩
      rcases hf : freeL true B with _ | _
      · rw [hf] at HTR
        by_cases h47 : B = 47
        · have h47e : ((B.toNat : Int) == 47) = true := by rw [h47]; rfl
          rcases sl with _ | _
          · have HTK : Hid (encL false (l.take (k + 1)) = F ++ [B]) := Lib.hid (by rw [HTR.out, if_pos (.inr ⟨h47, rfl⟩)])
            clear HTR h47 hf
            go_upto_region 7 with (fail)
            go_wp2_with (at_builtin; refine wpList_append_b rfl (.tmp 29) (.tmp 33) rfl w _ _ _ rfl HO.out HQ.out [B] 1 rfl rfl (by have h1 := HE.out; have h2 := HLT.out; constructor <;> omega) ?_)
            intro v2 w2 ho2 hq2 _ _
            have HO2 := Lib.hid ho2
            have HQ2 := Lib.hid hq2
            clear ho2 hq2 HO HQ
            go_wp2_with fail
            go_roundw
            case rel => exact ⟨k + 1, by omega, by go_num, by rw [HTK.out]; exact HO2.out, HQ2.out⟩
            case measure => simp [intOf]; omega
          · have HTK : Hid (encL true (l.take (k + 1)) = F ++ [37, gB capsL (B.toNat / 16), gB capsL (B.toNat % 16)]) := Lib.hid (by rw [HTR.out, if_neg (by simp)])
            clear HTR h47 hf
            go_upto_region 8 with (fail)
            have i1 : (B.toNat : Int) / 16 < 16 := by omega
            have i2 : (0 : Int) ≤ (B.toNat : Int) / 16 := by omega
            have i3 : (B.toNat : Int) % 16 < 16 := by omega
            have i4 : (0 : Int) ≤ (B.toNat : Int) % 16 := by omega
            have n1 : ((B.toNat : Int) / 16).toNat = B.toNat / 16 := by omega
            have n2 : ((B.toNat : Int) % 16).toNat = B.toNat % 16 := by omega
            refine wp_region_pure [0, 1, 2, 3, 4, 5, 6, 7, 8, 9, 10] [11, 12, 13] (by kernel_rfl) (by kernel_rfl) (by intro c a d v w h; cases d <;> exact h) ?_
            simp only [List.map_cons, List.map_nil, Array.getD_eq_getD_getElem?, List.getElem?_toArray, List.getElem?_cons_succ, List.getElem?_cons_zero, Option.getD_some]
            (repeat (go_big_quiet_step (fail)))
            refine wpQuiet_nil ?_
            clear i1 i2 i3 i4 n1 n2
            have HO1 := Lib.hid (HO.out.q (Q.refl wx).drew)
            have HQ1 := Lib.hid HQ.out.drew
            go_wp2_with (at_builtin; refine wpList_append_b rfl (.tmp 35) (.tmp 46) rfl w wx.drew _ F (by rfl) HO1.out HQ1.out [37, gB capsL (B.toNat / 16), gB capsL (B.toNat % 16)] 3 rfl (by rfl) (by have h1 := HE.out; have h2 := HLT.out; constructor <;> omega) ?_; intro v9 w9 hown9 hq9 _; have HO9 := Lib.hid hown9; have HQ9 := Lib.hid hq9; clear hown9 hq9)
            go_roundw
            case rel => exact ⟨k + 1, by omega, by go_num, by rw [HTK.out]; exact HO9.out, HQ9.out⟩
            case measure => simp [intOf]; omega
        · have h47e : ((B.toNat : Int) == 47) = false := by
            rw [beq_eq_false_iff_ne]; intro h; exact h47 (UInt8.toNat_inj.1 (show B.toNat = 47 by omega))
          have h47f : ¬ (B.toNat : Int) = 47 := by simpa using h47e
          · have HTK : Hid (encL sl (l.take (k + 1)) = F ++ [37, gB capsL (B.toNat / 16), gB capsL (B.toNat % 16)]) := Lib.hid (by rw [HTR.out, if_neg (by simp [h47])])
            clear HTR h47 hf
            go_upto_region 8 with (fail)
            have i1 : (B.toNat : Int) / 16 < 16 := by omega
            have i2 : (0 : Int) ≤ (B.toNat : Int) / 16 := by omega
            have i3 : (B.toNat : Int) % 16 < 16 := by omega
            have i4 : (0 : Int) ≤ (B.toNat : Int) % 16 := by omega
            have n1 : ((B.toNat : Int) / 16).toNat = B.toNat / 16 := by omega
            have n2 : ((B.toNat : Int) % 16).toNat = B.toNat % 16 := by omega
            refine wp_region_pure [0, 1, 2, 3, 4, 5, 6, 7, 8, 9, 10] [11, 12, 13] (by kernel_rfl) (by kernel_rfl) (by intro c a d v w h; cases d <;> exact h) ?_
            simp only [List.map_cons, List.map_nil, Array.getD_eq_getD_getElem?, List.getElem?_toArray, List.getElem?_cons_succ, List.getElem?_cons_zero, Option.getD_some]
            (repeat (go_big_quiet_step (fail)))
            refine wpQuiet_nil ?_
            clear i1 i2 i3 i4 n1 n2
            have HO1 := Lib.hid (HO.out.q (Q.refl wx).drew)
            have HQ1 := Lib.hid HQ.out.drew
            go_wp2_with (at_builtin; refine wpList_append_b rfl (.tmp 35) (.tmp 46) rfl w wx.drew _ F (by rfl) HO1.out HQ1.out [37, gB capsL (B.toNat / 16), gB capsL (B.toNat % 16)] 3 rfl (by rfl) (by have h1 := HE.out; have h2 := HLT.out; constructor <;> omega) ?_; intro v9 w9 hown9 hq9 _; have HO9 := Lib.hid hown9; have HQ9 := Lib.hid hq9; clear hown9 hq9)
            go_roundw
            case rel => exact ⟨k + 1, by omega, by go_num, by rw [HTK.out]; exact HO9.out, HQ9.out⟩
            case measure => simp [intOf]; omega
      · rw [hf] at HTR
        have HTK : Hid (encL sl (l.take (k + 1)) = F ++ [B]) := Lib.hid (by rw [HTR.out, if_pos (.inl rfl)])
        clear HTR hf
        · · go_upto_region 7 with (fail)
            go_wp2_with (at_builtin; refine wpList_append_b rfl (.tmp 29) (.tmp 33) rfl w _ _ _ rfl HO.out HQ.out [B] 1 rfl rfl (by have h1 := HE.out; have h2 := HLT.out; constructor <;> omega) ?_)
            intro v2 w2 ho2 hq2 _ _
            have HO2 := Lib.hid ho2
            have HQ2 := Lib.hid hq2
            clear ho2 hq2 HO HQ
            go_wp2_with fail
            go_roundw
            case rel => exact ⟨k + 1, by omega, by go_num, by rw [HTK.out]; exact HO2.out, HQ2.out⟩
            case measure => simp [intOf]; omega
    · obtain rfl : k = l.length := by omega
      rw [List.take_length] at hO
      have hcv := conv_b hO
      go_wp2_with fail
      go_ret
      exact ⟨rfl, hq⟩
theorem RDec_bad {l : List UInt8} {k : Nat} {o : List UInt8} (h : DecAt l k o) (hk : k < l.length) (hc : gB l k = 37) (hs : hexAt l (k + 1) < 0 ∨ hexAt l (k + 2) < 0) : (decR l).2 = some k := by
  by_cases hsh : l.length < k + 3
  · exact h.short hk hc hsh
  · refine h.bad (by omega) hc ?_
    unfold hexAt at hs
    rw [if_pos (by omega), if_pos (by omega)] at hs
    have a := hexV_bd (gB l (k + 1))
    have b := hexV_bd (gB l (k + 2))
    omega
theorem RDec_good {l : List UInt8} {k : Nat} {o : List UInt8} (h : DecAt l k o) (hc : gB l k = 37) (h1 : ¬ hexAt l (k + 1) < 0) (h2 : ¬ hexAt l (k + 2) < 0) :
    ∃ C : UInt8, k + 3 ≤ l.length ∧ (C.toNat : Int) = 16 * hexAt l (k + 1) + hexAt l (k + 2) ∧ hexAt l (k + 1) ≤ 15 ∧ hexAt l (k + 2) ≤ 15 ∧ DecAt l (k + 3) (o ++ [C]) := by
  have hl2 : k + 2 < l.length := by
    refine Decidable.byContradiction fun hn => h2 ?_
    unfold hexAt; rw [if_neg hn]; omega
  have a := hexV_bd (gB l (k + 1))
  have b := hexV_bd (gB l (k + 2))
  have e1 : hexAt l (k + 1) = hexV (gB l (k + 1)) := by unfold hexAt; rw [if_pos (by omega)]
  have e2 : hexAt l (k + 2) = hexV (gB l (k + 2)) := by unfold hexAt; rw [if_pos (by omega)]
  rw [e1] at h1
  rw [e2] at h2
  rw [e1, e2]
  refine ⟨_, by omega, ?_, by omega, by omega, h.esc (by omega) hc (by omega)⟩
  rw [UInt8.toNat_ofNat', a.2.2.2 (by omega), b.2.2.2 (by omega)]
  omega
set_option maxRecDepth 100000 in
set_option maxHeartbeats 2000000 in
theorem RDecode_any (l : List UInt8) (w : World) (hl : l.length ≤ 100000000) :
    Calls Tryz.prog 83 #[.string ⟨l.toArray⟩] w fun e w' => e = .returned (.tuple #[.string ⟨(rdecOut l).1.toArray⟩, .int .i64 (rdecOut l).2]) ∧ Q w w' := by
  go_enter Tryz.func83, Tryz.ntmps83
  go_wp2_with fail
  go_loopw [4, 5] (fun v i wr => ∃ (k : Nat) (o : List UInt8), k ≤ l.length ∧ i = .int .i64 k ∧ OwnB w wr v o ∧ o.length ≤ k ∧ Hid (DecAt l k o) ∧ Q w wr) (fun _ i _ => l.length - (intOf i).toNat)
  case atStart => exact ⟨0, [], by omega, rfl, OwnB.nil _ _, by simp, Lib.hid (DecAt.zero l), Q.refl _⟩
  case round =>
    obtain ⟨k, o, hk, rfl, hO, ho, HD, hq⟩ := hrel
    by_cases hlt : k < l.length
    · have hd : decide (k < l.length) = true := by simpa using hlt
      have HO := Lib.hid hO
      have HQ := Lib.hid hq
      clear hO hq
      by_cases hc : gB l k = 37
      · have hcn : (gB l k).toNat = 37 := by rw [hc]; rfl
        have HRD : Hid (∀ (i : Nat) (W : World), i ≤ 100000010 → Calls Tryz.prog 132 #[.string ⟨l.toArray⟩, .int .i64 (i : Int)] W fun e w' => e = .returned (.int .i64 (hexAt l i)) ∧ w' = W) := Lib.hid (fun i W hi => RDigit_any l i W hl hi)
        have HC := Lib.hid hc
        have HBad := Lib.hid (RDec_bad HD.out hlt hc)
        have HGood := Lib.hid (RDec_good HD.out hc)
        have h1 := HRD.out (k + 1)
        have h2 := HRD.out (k + 2)
        clear HRD hc
        rw [show ((k + 1 : Nat) : Int) = (k : Int) + 1 by omega] at h1
        rw [show ((k + 2 : Nat) : Int) = (k : Int) + 2 by omega] at h2
        have H1 := Lib.hid h1
        have H2 := Lib.hid h2
        clear h1 h2
        generalize hexAt l (k + 1) = X at HBad HGood H1
        generalize hexAt l (k + 2) = Y at HBad HGood H2
        by_cases hx : X < 0
        · have HR := Lib.hid (HBad.out (.inl hx))
          go_wp2_with fail
          refine (H1.out _ (by omega)).mono ?_
          rintro e wx ⟨rfl, rfl⟩
          go_wp2_with fail
          refine (H2.out _ (by omega)).mono ?_
          rintro e wx ⟨rfl, rfl⟩
          go_wp2_with fail
          go_ret2
          refine ⟨?_, HQ.out⟩
          show Ending.returned (.tuple #[_, _]) = _
          simp [rdecOut, HR.out]
        · by_cases hy : Y < 0
          · have HR := Lib.hid (HBad.out (.inr hy))
            go_wp2_with fail
            refine (H1.out _ (by omega)).mono ?_
            rintro e wx ⟨rfl, rfl⟩
            go_wp2_with fail
            refine (H2.out _ (by omega)).mono ?_
            rintro e wx ⟨rfl, rfl⟩
            go_wp2_with fail
            go_ret2
            refine ⟨?_, HQ.out⟩
            show Ending.returned (.tuple #[_, _]) = _
            simp [rdecOut, HR.out]
          · obtain ⟨C, hk3, hcv, hx15, hy15, hdn⟩ := HGood.out hx hy
            have HDN := Lib.hid hdn
            have e3 : IntKind.u8.wrap (16 * X + Y) = (C.toNat : Int) := by rw [IntKind.wrap_u8, hcv]; omega
            clear hdn hcv HBad HGood HD
            go_wp2_with fail
            refine (H1.out _ (by omega)).mono ?_
            rintro e wx ⟨rfl, rfl⟩
            go_wp2_with fail
            refine (H2.out _ (by omega)).mono ?_
            rintro e wx ⟨rfl, rfl⟩
            clear H1 H2
            go_wp2_with (at_builtin; refine wpList_append_b rfl (.tmp 39) (.tmp 45) rfl w _ _ _ rfl HO.out HQ.out [C] 1 rfl rfl (by constructor <;> omega) ?_)
            intro v2 w2 ho2 hq2 _ _
            have HO2 := Lib.hid ho2
            have HQ2 := Lib.hid hq2
            clear ho2 hq2 HO HQ
            go_wp2_with fail
            go_roundw
            case rel => exact ⟨k + 3, _, by omega, by go_num, HO2.out, by simp; omega, HDN, HQ2.out⟩
            case measure => simp [intOf]; omega
      · have hcn : ¬ ((gB l k).toNat : Int) = 37 := fun h => hc (UInt8.toNat_inj.mp (show (gB l k).toNat = 37 by omega))
        have hce : (((gB l k).toNat : Int) == 37) = false := by simpa using hcn
        go_wp2_with (at_builtin; refine wpList_append_b rfl (.tmp 18) (.tmp 22) rfl w _ _ _ rfl HO.out HQ.out [gB l k] 1 rfl rfl (by constructor <;> omega) ?_)
        intro v2 w2 ho2 hq2 _ _
        have HO2 := Lib.hid ho2
        have HQ2 := Lib.hid hq2
        have HD2 := Lib.hid (HD.out.plain hlt hc)
        clear ho2 hq2 HO HQ HD
        go_wp2_with fail
        go_roundw
        case rel => exact ⟨k + 1, _, by omega, by go_num, HO2.out, by simp; omega, HD2, HQ2.out⟩
        case measure => simp [intOf]; omega
    · have hdd := HD.out.done (by omega)
      have hcv := conv_b hO
      go_wp2_with fail
      go_ret2
      refine ⟨?_, hq⟩
      show Ending.returned (.tuple #[_, _]) = _
      simp [rdecOut, hdd]
end Go.Proofs.YtmmoenbmgcplkaaGreatDoor
set_option linter.unusedVariables false
set_option linter.unusedSimpArgs false
namespace Go.Proofs.YtmmoenbmgcplkaaGreatDoor
open Go Go.RowKit
end Go.Proofs.YtmmoenbmgcplkaaGreatDoor
