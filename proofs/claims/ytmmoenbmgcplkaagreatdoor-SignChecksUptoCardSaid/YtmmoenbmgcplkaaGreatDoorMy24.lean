/- Texts of this proof, laid into one: Sjr. -/
import Derived.Test.YtmmoenbmgcplkaaGreatDoorMy23
set_option linter.unusedVariables false
set_option linter.unusedSimpArgs false
namespace Go.Proofs.YtmmoenbmgcplkaaGreatDoor
open Go Go.RowKit
theorem field_cnt (ps : List PairD) (t : List UInt8) : ∃ v, FldAt ps t ps.length (manyL ps t) v := by
  have key : ∀ k, k ≤ ps.length → ∃ n v, FldAt ps t k n v := by
    intro k
    induction k with
    | zero => intro _; exact ⟨0, [], rfl, rfl⟩
    | succ k ih =>
      intro hk
      obtain ⟨n, v, h⟩ := ih (by omega)
      by_cases hn : smL (gU ps k).1 = smL t
      · exact ⟨_, _, h.yes (by omega) hn⟩
      · exact ⟨_, _, h.no (by omega) hn⟩
  obtain ⟨n, v, h⟩ := key ps.length (Nat.le_refl _)
  have e : manyL ps t = n := by have := h.1; rwa [List.take_length] at this
  rw [e]; exact ⟨v, h⟩
theorem field_one {ps : List PairD} {t : List UInt8} (h : manyL ps t = 1) : ∃ v, fieldL ps t = some v := by
  obtain ⟨v, h1, h2⟩ := field_cnt ps t
  rw [List.take_length, h, if_pos rfl] at h2
  exact ⟨v, h2⟩
theorem field_two {ps : List PairD} {t : List UInt8} (h : 1 < manyL ps t) : fieldL ps t = none := by
  obtain ⟨v, h1, h2⟩ := field_cnt ps t
  rw [List.take_length, if_neg (by omega)] at h2
  exact h2
theorem claimQ_rg {r : ReqD} {us : List UserD} {now : Int} {rg : List UInt8} {x : ClaimD} (h : x.region ≠ rg) : claimQ r us now rg x = (zeroU, 72) := by
  unfold claimQ
  split
  · split
    · rw [if_neg (fun hf => h hf.1)]
    · rfl
  · rfl
def atF (us : List UserD) (id : List UInt8) (j : Nat) : Int := match (us.drop j).findIdx? (isU id) with | none => -1 | some m => (j : Int) + (m : Int)
theorem atF_end (us : List UserD) (id : List UInt8) : atF us id us.length = -1 := by unfold atF; rw [List.drop_length]; rfl
theorem atF_zero (us : List UserD) (id : List UInt8) : atF us id 0 = idxU id us := by
  unfold atF idxU; rw [List.drop_zero]
  rcases us.findIdx? (isU id) with _ | k
  · rfl
  · simp
theorem atF_step {us : List UserD} {id : List UInt8} {j : Nat} (h : j < us.length) : atF us id j = if (gUs us j).id = id then (j : Int) else atF us id (j + 1) := by
  have e : us.drop j = gUs us j :: us.drop (j + 1) := by
    rw [List.drop_eq_getElem_cons h]; simp [gUs, List.getD, h]
  unfold atF
  rw [e, List.findIdx?_cons]
  by_cases hu : (gUs us j).id = id
  · rw [if_pos hu, show isU id (gUs us j) = true by unfold isU; simpa using hu]
    simp
  · rw [if_neg hu, show isU id (gUs us j) = false by unfold isU; simpa using hu]
    rcases (us.drop (j + 1)).findIdx? (isU id) with _ | m
    · rfl
    · simp; omega
structure RcAt (w W : World) (N : Nat) (r : ReqD) (v : Value) : Prop where
  lo : w.heap.size ≤ N
  q : Q w W
  b : RB W N r v
  z : UB W (N + 1) zeroU
  o : UB W (N + 2) zeroU
theorem RcAt.mv {w W W' : World} {N : Nat} {r : ReqD} {v : Value} (h : RcAt w W N r v) (hq : Q W W') : RcAt w W' N r v := ⟨h.lo, h.q.trans hq, h.b.q hq, h.z.q hq, h.o.q hq⟩
theorem rcheck_boxes (w : World) (r : ReqD) (v : Value) : ∃ N w1 w2 w3, w.heap.size = N ∧ w.alloc (.cells (reqV r v).toArray 24) = w1 ∧ w1.heap.size = N + 1 ∧ w1.alloc (.cells (userC zeroU).toArray 26) = w2 ∧ w2.heap.size = N + 2 ∧ w2.alloc (.cells (userC zeroU).toArray 26) = w3 ∧ RcAt w w3 N r v := by
  obtain ⟨N, w1, w2, hN, e1, hN1, e2, h⟩ := check_boxes w r v
  have hs2 : w2.heap.size = N + 2 := by rw [← e2]; show (w1.heap.push _).size = _; simp; omega
  have q3 : Q w2 (w2.alloc (.cells (userC zeroU).toArray 26)) := (Q.refl w2).alloc _
  have b3 := UB.new w2 zeroU
  rw [hs2] at b3
  exact ⟨N, w1, w2, _, hN, e1, hN1, e2, hs2, rfl, h.lo, h.q.trans q3, h.b.q q3, h.z.q q3, b3⟩
theorem prt_boxes (w : World) (x : ClaimD) (v : Value) : ∃ M W W', w.heap.size = M ∧ w.alloc (.cells (claimV zeroC (.slice none 0 0)).toArray 78) = W ∧ APB W M zeroC (.slice none 0 0) ∧ W.setRow M (claimV x v).toArray = W' ∧ APB W' M x v ∧ Q w W' := by
  refine ⟨w.heap.size, _, _, rfl, rfl, heap_alloc_new w _, rfl, ?_, Q.setRow ((Q.refl w).alloc _) (Nat.le_refl _) _⟩
  exact APB.row (heap_alloc_new w _) x v
set_option maxRecDepth 100000 in
set_option maxHeartbeats 8000000 in
theorem RCheck_any (r : ReqD) (A : Option Addr) (n c : Nat) (B : Option Addr) (k kc : Nat) (us : List UserD) (now : Int) (rg : List UInt8) (w : World) (hf : PairsAt w A n r.fs) (hc : n ≤ c) (hcap : c ≤ 9223372036854775807) (hu : UsersAt w B k us) (hk : k ≤ 9223372036854775807) (hok : ChkOk r us rg) :
    Calls Tryz.prog 22 #[.agg (reqC r A n c).toArray, .slice B k kc, .int .i64 now, .string ⟨rg.toArray⟩] w (CkPost (checkQ r us now rg) w) := by
  obtain ⟨N, w1, w2, w3, hN, e1, hN1, e2, hN2, e3, hat⟩ := rcheck_boxes w r (.slice A n c)
  have HA := Lib.hid hat
  have HU := Lib.hid hu
  have hRgl : rg.length ≤ 100000000 := by have := hok.rg; omega
  have hn1 : n ≤ 10000000 := by rw [hf.1]; exact Nat.le_trans hok.cnt (by omega)
  have hea : ∀ p ∈ r.fs, p.1.length ≤ 10000000 ∧ p.2.length ≤ 10000000 := fun p hp => by have := heavy_mem hp; have h2 := hok.rq.hv; unfold heavy at this; omega
  have HMn := Lib.hid (fun (t : List UInt8) W (h1 : smL t = t) (hq : Q w W) => RCount_any A n c r.fs t W (hf.q hq) hn1 hea h1)
  have HFd := Lib.hid (fun (t : List UInt8) W (h1 : t.length ≤ 1000) (hq : Q w W) => RField_any A n c r.fs t W (hf.q hq) hn1 hea (by omega))
  have HCn := Lib.hid (fun (D : Option Addr) (j jc : Nat) (ns : List (List UInt8)) W (hq : Q w W) (hn : NmAt W D j ns) (hjc : j ≤ jc) (hj : j ≤ 1060000) (hs : sumU ns ≤ 10000000) => RCanonical_any r A n c D j jc ns W (hf.q hq) hc hcap hok.rq hn hjc hj hs)
  have hFl : ∀ t v, fieldL r.fs t = some v → v.length ≤ 1055000 := fun t v h => by
    unfold fieldL at h
    rcases hx : r.fs.findIdx? (isN t) with _ | i
    · rw [hx] at h; cases h
    · rw [hx] at h
      simp only at h
      split at h
      · cases h
      · injection h with h
        have hi := (List.findIdx?_eq_some_iff_findIdx_eq.1 hx).1
        have := hok.each _ (List.getElem_mem hi)
        rw [← h, gU_get _ _ hi]; exact this
  have HFL := Lib.hid hFl
  have HSh := Lib.hid (fun W => Sum256R_any r.body W (by have := hok.body; omega))
  have HHx := Lib.hid (fun W => RHex_any (sha r.body) W (by rw [sha_length]; omega))
  have HUS := Lib.hid hok.us
  have HCL := Lib.hid (fun (ns : List (List UInt8)) (cq : List UInt8) (h1 : sumU ns ≤ 10000000) (h2 : ns.length ≤ 1060000) (h : canonQ r ns = some cq) => canonQ_len hok.rq h1 h2 h)
  have hmle := manyL_le r.fs authL
  have hcn := hok.cnt
  obtain ⟨q, hq⟩ : ∃ q, checkQ r us now rg = q := ⟨_, rfl⟩
  have HQ := Lib.hid hq
  rw [hq]
  have hkl := hu.1
  have HKL := Lib.hid hkl
  clear hat hf hu hea hok hFl hq hc hcap hn1 hkl
  obtain ⟨m, tg, minor, fs, body, close⟩ := r
  simp only [reqV, userC, zeroU] at e1 e2 e3
  simp only at HMn HFd HSh HHx hmle hcn HFL
  unfold reqC
  obtain ⟨MN, hMN⟩ : ∃ x, manyL fs authL = x := ⟨_, rfl⟩
  obtain ⟨FA, hFA⟩ : ∃ x, fieldL fs authL = x := ⟨_, rfl⟩
  have HMa : Hid (∀ W, Q w W → Calls Tryz.prog 50 #[.slice A n c, .string ⟨#[97, 117, 116, 104, 111, 114, 105, 122, 97, 116, 105, 111, 110]⟩] W fun e w' => e = .returned (.int .i64 (MN : Nat)) ∧ Q W w') := Lib.hid (fun W hq => by
    have := HMn.out authL W (by decide) hq
    rw [hMN] at this; exact this)
  have HFa : Hid (∀ W, Q w W → Calls Tryz.prog 40 #[.slice A n c, .string ⟨#[97, 117, 116, 104, 111, 114, 105, 122, 97, 116, 105, 111, 110]⟩] W fun e w' => e = .returned (.tuple #[.string ⟨(FA.getD []).toArray⟩, .bool FA.isSome]) ∧ Q W w') := Lib.hid (fun W hq => by
    have := HFd.out authL W (by decide) hq
    rw [hFA] at this; exact this)
  have hAl : ∀ v, FA = some v → v.length ≤ 1055000 := fun v h => HFL.out authL v (hFA.trans h)
  rw [hMN] at hmle
  have HF1 : Hid (MN = 1 → ∃ v, FA = some v) := Lib.hid (fun h => by rw [← hFA]; exact field_one (hMN.trans h))
  have HF2 : Hid (1 < MN → FA = none) := Lib.hid (fun h => by rw [← hFA]; exact field_two (by rw [hMN]; exact h))
  have HMN := Lib.hid hMN
  have HFA := Lib.hid hFA
  clear hMN hFA HMn
  obtain ⟨TB, hTB⟩ : ∃ b, (decide (0 ≤ now) && decide (now ≤ 253402300799)) = b := ⟨_, rfl⟩
  have HIs := Lib.hid (fun W => IsR now W)
  rw [hTB] at HIs
  have HTB := Lib.hid hTB
  clear hTB
  go_enter Tryz.func22, Tryz.ntmps22
  go_wp2_with fail
  refine (HIs.out _).mono ?_
  rintro e w4 ⟨rfl, rfl⟩
  obtain ⟨b0, b1, b2, b3, b4, b5⟩ := HA.out.b.c
  simp only at b0 b1 b2 b4 b5
  clear e1 e2 e3 hN hN1 hN2
  go_wp2_with fail
  refine (HMa.out _ HA.out.q).mono ?_
  rintro e w5 ⟨rfl, hq5⟩
  have HA5 := Lib.hid (HA.out.mv hq5)
  clear hq5 b0 b1 b2 b3 b4 b5 HA HMa HIs
  rcases TB with _ | _
  · have HNo : Hid (q = (zeroU, 1)) := Lib.hid (by
      rw [← HQ.out]; unfold checkQ
      rw [if_neg (fun h => by have := HTB.out; rw [Bool.and_eq_false_iff] at this; rcases this with h1 | h1 <;> simp at h1 <;> have := h.1 <;> have := h.2 <;> omega)])
    obtain ⟨u0, u1, u2⟩ := HA5.out.o.c
    simp only [zeroU] at u0 u1 u2
    go_wp2_with (refine wpList_store_row rfl 26 _ _ rfl (N + 1) (userC zeroU).toArray (by rfl) (by rfl) 26 _ HA5.out.z (infoUsrS _) rfl (userC_one _) ?_)
    have hz9 := HA5.out.z.row zeroU
    have hq9 : Q w (w5.setRow (N + 1) (userC zeroU).toArray) := ((GX.refl [N + 1] w5).setRow (by simp) _).toQ HA5.out.q (fun k hk => by have := HA5.out.lo; simp at hk; omega)
    generalize w5.setRow (N + 1) (userC zeroU).toArray = W9 at hz9 hq9 ⊢
    have HZ9 := Lib.hid hz9
    have HQ9 := Lib.hid hq9
    clear hz9 hq9 u0 u1 u2
    go_wp2_with fail
    refine bodyPost_ret (v := .tuple #[.agg (userC zeroU).toArray, .int .i64 1]) ?_ rfl (by unfold CkPost; rw [HNo.out]; exact ⟨rfl, HQ9.out⟩)
    exact results_cell_row2 rfl _ _ (N + 1) 26 _ (0, 0) _ _ (by rfl) (by rfl) HZ9.out Tryz.underlying26 rfl (infoUsrS _)
  have HT : Hid (TimeOk now) := Lib.hid (by have := HTB.out; simp only [Bool.and_eq_true, decide_eq_true_eq] at this; exact this)
  by_cases hm0 : MN = 0
  · have gm : (((MN : Nat) : Int) == 0) = true := by rw [hm0]; rfl
    have HNo : Hid (q = (zeroU, 71)) := Lib.hid (by rw [← HQ.out]; unfold checkQ; rw [if_pos HT.out, if_pos (HMN.out.trans hm0)])
    clear hm0
    obtain ⟨u0, u1, u2⟩ := HA5.out.o.c
    simp only [zeroU] at u0 u1 u2
    go_wp2_with (refine wpList_store_row rfl 26 _ _ rfl (N + 1) (userC zeroU).toArray (by rfl) (by rfl) 26 _ HA5.out.z (infoUsrS _) rfl (userC_one _) ?_)
    have hz9 := HA5.out.z.row zeroU
    have hq9 : Q w (w5.setRow (N + 1) (userC zeroU).toArray) := ((GX.refl [N + 1] w5).setRow (by simp) _).toQ HA5.out.q (fun k hk => by have := HA5.out.lo; simp at hk; omega)
    generalize w5.setRow (N + 1) (userC zeroU).toArray = W9 at hz9 hq9 ⊢
    have HZ9 := Lib.hid hz9
    have HQ9 := Lib.hid hq9
    clear hz9 hq9 u0 u1 u2
    go_wp2_with fail
    refine bodyPost_ret (v := .tuple #[.agg (userC zeroU).toArray, .int .i64 71]) ?_ rfl (by unfold CkPost; rw [HNo.out]; exact ⟨rfl, HQ9.out⟩)
    exact results_cell_row2 rfl _ _ (N + 1) 26 _ (0, 0) _ _ (by rfl) (by rfl) HZ9.out Tryz.underlying26 rfl (infoUsrS _)
  have gm : (((MN : Nat) : Int) == 0) = false := by
    simp only [beq_eq_false_iff_ne, ne_eq]; omega
  by_cases hm1 : 1 < MN
  · have gm1 : decide ((1 : Int) < ((MN : Nat) : Int)) = true := by simp; omega
    have HNo : Hid (q = (zeroU, 72)) := Lib.hid (by rw [← HQ.out]; unfold checkQ; rw [if_pos HT.out, if_neg (fun h => hm0 (HMN.out.symm.trans h))]; simp only [HFA.out, HF2.out hm1])
    clear hm0 hm1
    obtain ⟨u0, u1, u2⟩ := HA5.out.o.c
    simp only [zeroU] at u0 u1 u2
    go_wp2_with (refine wpList_store_row rfl 26 _ _ rfl (N + 1) (userC zeroU).toArray (by rfl) (by rfl) 26 _ HA5.out.z (infoUsrS _) rfl (userC_one _) ?_)
    have hz9 := HA5.out.z.row zeroU
    have hq9 : Q w (w5.setRow (N + 1) (userC zeroU).toArray) := ((GX.refl [N + 1] w5).setRow (by simp) _).toQ HA5.out.q (fun k hk => by have := HA5.out.lo; simp at hk; omega)
    generalize w5.setRow (N + 1) (userC zeroU).toArray = W9 at hz9 hq9 ⊢
    have HZ9 := Lib.hid hz9
    have HQ9 := Lib.hid hq9
    clear hz9 hq9 u0 u1 u2
    go_wp2_with fail
    refine bodyPost_ret (v := .tuple #[.agg (userC zeroU).toArray, .int .i64 72]) ?_ rfl (by unfold CkPost; rw [HNo.out]; exact ⟨rfl, HQ9.out⟩)
    exact results_cell_row2 rfl _ _ (N + 1) 26 _ (0, 0) _ _ (by rfl) (by rfl) HZ9.out Tryz.underlying26 rfl (infoUsrS _)
  have gm1 : decide ((1 : Int) < ((MN : Nat) : Int)) = false := by simp; omega
  obtain ⟨auth, rfl⟩ := HF1.out (by omega)
  have HCK0 : Hid (∀ X, (match readQ auth with | none => (zeroU, 72) | some x => claimQ ⟨m, tg, minor, fs, body, close⟩ us now rg x) = X → q = X) := Lib.hid (fun X h => by
    rw [← HQ.out]; unfold checkQ
    rw [if_pos HT.out, if_neg (fun h => hm0 (HMN.out.symm.trans h))]; simp only [HFA.out]; exact h)
  have hal := hAl auth rfl
  simp only [Option.getD_some, Option.isSome_some] at HFa
  clear hm0 hm1 HF1 HF2 HMN HFA HTB HQ hAl
  obtain ⟨b0, b1, b2, b3, b4, b5⟩ := HA5.out.b.c
  simp only at b0 b1 b2 b4 b5
  go_wp2_with fail
  refine (HFa.out _ HA5.out.q).mono ?_
  rintro e w6 ⟨rfl, hq6⟩
  have HA6 := Lib.hid (HA5.out.mv hq6)
  clear hq6 b0 b1 b2 b3 b4 b5 HA5 HFa gm gm1
  obtain ⟨RQ, hRQ⟩ : ∃ x, readQ auth = x := ⟨_, rfl⟩
  have HAp : Hid (∀ W, Calls Tryz.prog 53 #[.string ⟨auth.toArray⟩] W (ApPost RQ W)) := Lib.hid (fun W => by rw [← hRQ, read_apart]; exact apart_any auth W (by omega))
  have hsm : ∀ x, RQ = some x → sumU x.names ≤ 1055001 ∧ x.names.length ≤ 1055001 := fun x h => by have := read_small (hRQ.trans h); omega
  rw [hRQ] at HCK0
  clear hRQ
  unfold ApPost at HAp
  go_wp2_with fail
  refine (HAp.out _).mono ?_
  clear HAp
  rcases RQ with _ | x
  · rintro e w7 ⟨rfl, hq7⟩
    have HNo : Hid (q = (zeroU, 72)) := Lib.hid (HCK0.out _ rfl)
    have HA7 := Lib.hid (HA6.out.mv hq7)
    clear hq7
    obtain ⟨M, W1, W2, hM, hW1, hl1, hW2, hl2, hq2⟩ := prt_boxes w7 zeroC (.slice none 0 0)
    have HA8 := Lib.hid (HA7.out.mv hq2)
    have hW1b : w7.alloc (.cells #[.string ⟨#[]⟩, .string ⟨#[]⟩, .string ⟨#[]⟩, .string ⟨#[]⟩, .slice none 0 0] 78) = W1 := hW1
    go_upto_region 12 with (refine wpList_store_row rfl 78 _ _ rfl M (claimV zeroC (.slice none 0 0)).toArray (by rfl) (by rfl) 78 _ hl1 (infoPts _ _) rfl (claimV_one _ _ _ _) ?_)
    try rw [hW2]
    clear hM hW1 hl1 hW1b hq2 hl2
    obtain ⟨u0, u1, u2⟩ := HA8.out.o.c
    simp only [zeroU] at u0 u1 u2
    go_wp2_with (refine wpList_store_row rfl 26 _ _ rfl (N + 1) (userC zeroU).toArray (by rfl) (by rfl) 26 _ HA8.out.z (infoUsrS _) rfl (userC_one _) ?_)
    have hz9 := HA8.out.z.row zeroU
    have hq9 : Q w (W2.setRow (N + 1) (userC zeroU).toArray) := ((GX.refl [N + 1] W2).setRow (by simp) _).toQ HA8.out.q (fun k hk => by have := HA8.out.lo; simp at hk; omega)
    generalize W2.setRow (N + 1) (userC zeroU).toArray = W9 at hz9 hq9 ⊢
    have HZ9 := Lib.hid hz9
    have HQ9 := Lib.hid hq9
    clear hz9 hq9 u0 u1 u2
    go_wp2_with fail
    refine bodyPost_ret (v := .tuple #[.agg (userC zeroU).toArray, .int .i64 72]) ?_ rfl (by unfold CkPost; rw [HNo.out]; exact ⟨rfl, HQ9.out⟩)
    exact results_cell_row2 rfl _ _ (N + 1) 26 _ (0, 0) _ _ (by rfl) (by rfl) HZ9.out Tryz.underlying26 rfl (infoUsrS _)
  obtain ⟨hsm1, hsm2⟩ := hsm x rfl
  clear hsm
  rintro e w7 ⟨NA, kn, rfl, hnk, hnm, hq7⟩
  have HA7 := Lib.hid (HA6.out.mv hq7)
  obtain ⟨M, W1, W2, hM, hW1, hl1, hW2, hl2, hq2⟩ := prt_boxes w7 x (.slice NA x.names.length kn)
  have HA8 := Lib.hid (HA7.out.mv hq2)
  have HL8 := Lib.hid hl2
  have HN8 := Lib.hid (hnm.q hq2)
  clear hq2 hl2 hnm hq7
  have hW1b : w7.alloc (.cells #[.string ⟨#[]⟩, .string ⟨#[]⟩, .string ⟨#[]⟩, .string ⟨#[]⟩, .slice none 0 0] 78) = W1 := hW1
  obtain ⟨NL, hNL⟩ : ∃ x', x.names.length = x' := ⟨_, rfl⟩
  rw [hNL] at HN8 HL8 hsm2 hW2 hnk ⊢
  go_upto_region 12 with (refine wpList_store_row rfl 78 _ _ rfl M (claimV x (.slice NA NL kn)).toArray (by rfl) (by rfl) 78 _ hl1 (infoPts _ _) rfl (claimV_one _ _ _ _) ?_)
  try rw [hW2]
  clear hM hW1 hW2 hW1b hl1 HA7 HA6
  obtain ⟨xi, xd, xr, xs, xn⟩ := x
  simp only at hsm1 hsm2 HN8 hNL HL8 HCK0
  obtain ⟨x0, x1, x2, x3, x4⟩ := HL8.out.c
  simp only at x0 x1 x2 x3 x4
  by_cases hrg : xr = rg
  rotate_left
  · have HNo : Hid (q = (zeroU, 72)) := Lib.hid (HCK0.out _ (claimQ_rg hrg))
    have g4 : (xr == rg) = false := by simpa using hrg
    have g4' : (xr != rg) = true := by simpa using hrg
    clear hrg
    obtain ⟨u0, u1, u2⟩ := HA8.out.o.c
    simp only [zeroU] at u0 u1 u2
    go_wp2_with (refine wpList_store_row rfl 26 _ _ rfl (N + 1) (userC zeroU).toArray (by rfl) (by rfl) 26 _ HA8.out.z (infoUsrS _) rfl (userC_one _) ?_)
    have hz9 := HA8.out.z.row zeroU
    have hq9 : Q w (W2.setRow (N + 1) (userC zeroU).toArray) := ((GX.refl [N + 1] W2).setRow (by simp) _).toQ HA8.out.q (fun k hk => by have := HA8.out.lo; simp at hk; omega)
    generalize W2.setRow (N + 1) (userC zeroU).toArray = W9 at hz9 hq9 ⊢
    have HZ9 := Lib.hid hz9
    have HQ9 := Lib.hid hq9
    clear hz9 hq9 u0 u1 u2
    go_wp2_with fail
    refine bodyPost_ret (v := .tuple #[.agg (userC zeroU).toArray, .int .i64 72]) ?_ rfl (by unfold CkPost; rw [HNo.out]; exact ⟨rfl, HQ9.out⟩)
    exact results_cell_row2 rfl _ _ (N + 1) 26 _ (0, 0) _ _ (by rfl) (by rfl) HZ9.out Tryz.underlying26 rfl (infoUsrS _)
  have g4 : (xr == rg) = true := by simpa using hrg
  have g4' : (xr != rg) = false := by simpa using hrg
  have HRG := Lib.hid hrg
  clear hrg
  obtain ⟨CQ, hCQ⟩ : ∃ x', canonQ ⟨m, tg, minor, fs, body, close⟩ xn = x' := ⟨_, rfl⟩
  obtain ⟨CV, hCV⟩ : ∃ x', CQ.getD [] = x' := ⟨_, rfl⟩
  obtain ⟨CB, hCB⟩ : ∃ x', CQ.isSome = x' := ⟨_, rfl⟩
  have HCc : Hid (∀ W, Q w W → NmAt W NA NL xn → Calls Tryz.prog 14 #[.agg (reqC ⟨m, tg, minor, fs, body, close⟩ A n c).toArray, .slice NA NL kn] W fun e w' => e = .returned (.tuple #[.string ⟨CV.toArray⟩, .bool CB]) ∧ Q W w') := Lib.hid (fun W hq hn => by
    have := HCn.out NA NL kn xn W hq hn hnk (by omega) (by omega)
    rw [hCQ, hCV, hCB] at this; exact this)
  have hcl : CV.length ≤ 140737488355328 := by
    rw [← hCV]
    rcases CQ with _ | cq
    · simp
    · exact HCL.out xn cq (by omega) (by omega) hCQ
  have HCQ : Hid (CB = true → canonQ ⟨m, tg, minor, fs, body, close⟩ xn = some CV) := Lib.hid (fun h => by
    rw [hCQ, ← hCV]
    rcases CQ with _ | cq
    · rw [← hCB] at h; cases h
    · rfl)
  have HCQ0 : Hid (CB = false → canonQ ⟨m, tg, minor, fs, body, close⟩ xn = none) := Lib.hid (fun h => by
    rw [hCQ]
    rcases CQ with _ | cq
    · rfl
    · rw [← hCB] at h; cases h)
  obtain ⟨FD, hFD⟩ : ∃ x', fieldL fs datedL = x' := ⟨_, rfl⟩
  obtain ⟨STV, hSTV⟩ : ∃ x', FD.getD [] = x' := ⟨_, rfl⟩
  have hstl : STV.length ≤ 1055000 := by
    rw [← hSTV]
    rcases FD with _ | v
    · simp
    · exact HFL.out datedL v hFD
  obtain ⟨FDB, hFDB⟩ : ∃ x', FD.isSome = x' := ⟨_, rfl⟩
  have HFd2 : Hid (∀ W, Q w W → Calls Tryz.prog 40 #[.slice A n c, .string ⟨#[120, 45, 97, 109, 122, 45, 100, 97, 116, 101]⟩] W fun e w' => e = .returned (.tuple #[.string ⟨STV.toArray⟩, .bool FDB]) ∧ Q W w') := Lib.hid (fun W hq => by
    have := HFd.out datedL W (by decide) hq
    rw [hFD, hSTV, hFDB] at this; exact this)
  have HFD1 : Hid (FDB = true → fieldL fs datedL = some STV) := Lib.hid (fun h => by
    rw [hFD, ← hSTV]
    rcases FD with _ | v
    · rw [← hFDB] at h; cases h
    · rfl)
  have HFD0 : Hid (FDB = false → fieldL fs datedL = none) := Lib.hid (fun h => by
    rw [hFD]
    rcases FD with _ | v
    · rfl
    · rw [← hFDB] at h; cases h)
  have HRs := Lib.hid (fun W => ReadStamp17R STV W (by omega))
  unfold ReadRPost at HRs
  obtain ⟨HB1, hHB1⟩ : ∃ x', decide (hostL ∈ xn) = x' := ⟨_, rfl⟩
  obtain ⟨HB2, hHB2⟩ : ∃ x', decide (datedL ∈ xn) = x' := ⟨_, rfl⟩
  have HH1 : Hid (∀ W, NmAt W NA NL xn → Calls Tryz.prog 55 #[.slice NA NL kn, .string ⟨#[104, 111, 115, 116]⟩] W fun e w' => e = .returned (.bool HB1) ∧ Q W w') := Lib.hid (fun W hn => by
    have := Rhas_any NA NL kn xn hostL W hn (by omega)
    rw [hHB1] at this
    exact this.mono (fun e w' h => ⟨h.1, by rw [h.2]; exact Q.refl _⟩))
  have HH2 : Hid (∀ W, NmAt W NA NL xn → Calls Tryz.prog 55 #[.slice NA NL kn, .string ⟨#[120, 45, 97, 109, 122, 45, 100, 97, 116, 101]⟩] W fun e w' => e = .returned (.bool HB2) ∧ Q W w') := Lib.hid (fun W hn => by
    have := Rhas_any NA NL kn xn datedL W hn (by omega)
    rw [hHB2] at this
    exact this.mono (fun e w' h => ⟨h.1, by rw [h.2]; exact Q.refl _⟩))
  have HHB : Hid (decide (hostL ∈ xn) = HB1 ∧ decide (datedL ∈ xn) = HB2) := Lib.hid ⟨hHB1, hHB2⟩
  clear hCQ hCV hCB hFD hSTV hFDB hHB1 hHB2 hsm1 hal hmle hNL HCn HCL
  unfold reqC at HCc
  obtain ⟨b0, b1, b2, b3, b4, b5⟩ := HA8.out.b.c
  simp only at b0 b1 b2 b4 b5
  go_wp2_with fail
  refine (HCc.out _ HA8.out.q HN8.out).mono ?_
  rintro e v1 ⟨rfl, hq1⟩
  have HA9 := Lib.hid (HA8.out.mv hq1)
  have HL9 := Lib.hid (HL8.out.q hq1)
  have HN9 := Lib.hid (HN8.out.q hq1)
  clear hq1 b0 b1 b2 b3 b4 b5 x0 x1 x2 x3 x4 HA8 HL8 HN8 HCc g4 g4'
  obtain ⟨b0, b1, b2, b3, b4, b5⟩ := HA9.out.b.c
  simp only at b0 b1 b2 b4 b5
  go_wp2_with fail
  refine (HFd2.out _ HA9.out.q).mono ?_
  rintro e v2 ⟨rfl, hq2⟩
  have HAa := Lib.hid (HA9.out.mv hq2)
  have HLa := Lib.hid (HL9.out.q hq2)
  have HNa := Lib.hid (HN9.out.q hq2)
  clear hq2 b0 b1 b2 b3 b4 b5 HA9 HL9 HN9 HFd2
  go_wp2_with fail
  refine (HRs.out _).mono ?_
  rintro e v3 ⟨WN, rfl, hwn, hq3⟩
  have HA3 := Lib.hid (HAa.out.mv hq3)
  have HLb := Lib.hid (HLa.out.q hq3)
  have HNb := Lib.hid (HNa.out.q hq3)
  have HWN := Lib.hid hwn
  have hwb : -1 ≤ WN ∧ WN ≤ 253402300799 := by rcases hwn with ⟨h, _⟩ | ⟨h, _⟩ <;> omega
  obtain ⟨hwb1, hwb2⟩ := hwb
  clear hq3 hwn HAa HLa HNa HRs
  have x1 : ∀ mm : QW v3, mm.val.cell? ⟨M, 1, none⟩ = some (.string ⟨xd.toArray⟩) := fun mm => mm.cell HLb.out.c.2.1
  have x4 : ∀ mm : QW v3, mm.val.cell? ⟨M, 4, none⟩ = some (.slice NA NL kn) := fun mm => mm.cell HLb.out.c.2.2.2.2
  have HCM : Hid (∀ X, claimQ ⟨m, tg, minor, fs, body, close⟩ us now rg ⟨xi, xd, xr, xs, xn⟩ = X → q = X) := HCK0
  clear HCK0
  rcases CB with _ | _
  · have HNo : Hid (q = (zeroU, 72)) := Lib.hid (HCM.out _ (by unfold claimQ; simp only [HCQ0.out rfl]))
    go_upto_region 17 with (fail)
    refine wp_region_q (by kernel_rfl) (by kernel_rfl) ?_
    (repeat (go_big_quiet_step (first | (go_at_call 55; with_reducible exact calls_q (HH1.out _ (HNb.out.q (QW.le _)))) | (go_at_call 55; with_reducible exact calls_q (HH2.out _ (HNb.out.q (QW.le _)))))))
    refine wpQuiet_nil ?_
    rintro wr ⟨mr, hmr⟩
    have hqr : Q v3 wr := by rw [hmr]; exact mr.le
    have HAr := Lib.hid (HA3.out.mv hqr)
    have HLr := Lib.hid (HLb.out.q hqr)
    clear mr hmr HA3 hqr
    obtain ⟨u0, u1, u2⟩ := HAr.out.o.c
    simp only [zeroU] at u0 u1 u2
    go_wp2_with (refine wpList_store_row rfl 26 _ _ rfl (N + 1) (userC zeroU).toArray (by rfl) (by rfl) 26 _ HAr.out.z (infoUsrS _) rfl (userC_one _) ?_)
    have hz9 := HAr.out.z.row zeroU
    have hq9 : Q w (wr.setRow (N + 1) (userC zeroU).toArray) := ((GX.refl [N + 1] wr).setRow (by simp) _).toQ HAr.out.q (fun k hk => by have := HAr.out.lo; simp at hk; omega)
    generalize wr.setRow (N + 1) (userC zeroU).toArray = W9 at hz9 hq9 ⊢
    have HZ9 := Lib.hid hz9
    have HQ9 := Lib.hid hq9
    clear hz9 hq9 u0 u1 u2
    go_wp2_with fail
    refine bodyPost_ret (v := .tuple #[.agg (userC zeroU).toArray, .int .i64 72]) ?_ rfl (by unfold CkPost; rw [HNo.out]; exact ⟨rfl, HQ9.out⟩)
    exact results_cell_row2 rfl _ _ (N + 1) 26 _ (0, 0) _ _ (by rfl) (by rfl) HZ9.out Tryz.underlying26 rfl (infoUsrS _)
  rcases FDB with _ | _
  · have HNo : Hid (q = (zeroU, 72)) := Lib.hid (HCM.out _ (by unfold claimQ; simp only [HCQ.out rfl, HFD0.out rfl]))
    go_upto_region 17 with (fail)
    refine wp_region_q (by kernel_rfl) (by kernel_rfl) ?_
    (repeat (go_big_quiet_step (first | (go_at_call 55; with_reducible exact calls_q (HH1.out _ (HNb.out.q (QW.le _)))) | (go_at_call 55; with_reducible exact calls_q (HH2.out _ (HNb.out.q (QW.le _)))))))
    refine wpQuiet_nil ?_
    rintro wr ⟨mr, hmr⟩
    have hqr : Q v3 wr := by rw [hmr]; exact mr.le
    have HAr := Lib.hid (HA3.out.mv hqr)
    have HLr := Lib.hid (HLb.out.q hqr)
    clear mr hmr HA3 hqr
    obtain ⟨u0, u1, u2⟩ := HAr.out.o.c
    simp only [zeroU] at u0 u1 u2
    go_wp2_with (refine wpList_store_row rfl 26 _ _ rfl (N + 1) (userC zeroU).toArray (by rfl) (by rfl) 26 _ HAr.out.z (infoUsrS _) rfl (userC_one _) ?_)
    have hz9 := HAr.out.z.row zeroU
    have hq9 : Q w (wr.setRow (N + 1) (userC zeroU).toArray) := ((GX.refl [N + 1] wr).setRow (by simp) _).toQ HAr.out.q (fun k hk => by have := HAr.out.lo; simp at hk; omega)
    generalize wr.setRow (N + 1) (userC zeroU).toArray = W9 at hz9 hq9 ⊢
    have HZ9 := Lib.hid hz9
    have HQ9 := Lib.hid hq9
    clear hz9 hq9 u0 u1 u2
    go_wp2_with fail
    refine bodyPost_ret (v := .tuple #[.agg (userC zeroU).toArray, .int .i64 72]) ?_ rfl (by unfold CkPost; rw [HNo.out]; exact ⟨rfl, HQ9.out⟩)
    exact results_cell_row2 rfl _ _ (N + 1) 26 _ (0, 0) _ _ (by rfl) (by rfl) HZ9.out Tryz.underlying26 rfl (infoUsrS _)
  have hcm2 : (∀ t, stampQ STV = some t → ¬ fitQ rg ⟨xi, xd, xr, xs, xn⟩ STV) → q = (zeroU, 72) := fun h => HCM.out _ (by
    unfold claimQ; simp only [HCQ.out rfl, HFD1.out rfl]
    rcases hst : stampQ STV with _ | t
    · rfl
    · simp only; rw [if_neg (h t hst)])
  have HM2 := Lib.hid hcm2
  clear hcm2
  rcases HB1 with _ | _
  · have HNo : Hid (q = (zeroU, 72)) := Lib.hid (HM2.out (fun t _ h => of_decide_eq_false HHB.out.1 h.2.1))
    go_upto_region 17 with (fail)
    refine wp_region_q (by kernel_rfl) (by kernel_rfl) ?_
    (repeat (go_big_quiet_step (first | (go_at_call 55; with_reducible exact calls_q (HH1.out _ (HNb.out.q (QW.le _)))) | (go_at_call 55; with_reducible exact calls_q (HH2.out _ (HNb.out.q (QW.le _)))))))
    refine wpQuiet_nil ?_
    rintro wr ⟨mr, hmr⟩
    have hqr : Q v3 wr := by rw [hmr]; exact mr.le
    have HAr := Lib.hid (HA3.out.mv hqr)
    have HLr := Lib.hid (HLb.out.q hqr)
    clear mr hmr HA3 hqr
    obtain ⟨u0, u1, u2⟩ := HAr.out.o.c
    simp only [zeroU] at u0 u1 u2
    go_wp2_with (refine wpList_store_row rfl 26 _ _ rfl (N + 1) (userC zeroU).toArray (by rfl) (by rfl) 26 _ HAr.out.z (infoUsrS _) rfl (userC_one _) ?_)
    have hz9 := HAr.out.z.row zeroU
    have hq9 : Q w (wr.setRow (N + 1) (userC zeroU).toArray) := ((GX.refl [N + 1] wr).setRow (by simp) _).toQ HAr.out.q (fun k hk => by have := HAr.out.lo; simp at hk; omega)
    generalize wr.setRow (N + 1) (userC zeroU).toArray = W9 at hz9 hq9 ⊢
    have HZ9 := Lib.hid hz9
    have HQ9 := Lib.hid hq9
    clear hz9 hq9 u0 u1 u2
    go_wp2_with fail
    refine bodyPost_ret (v := .tuple #[.agg (userC zeroU).toArray, .int .i64 72]) ?_ rfl (by unfold CkPost; rw [HNo.out]; exact ⟨rfl, HQ9.out⟩)
    exact results_cell_row2 rfl _ _ (N + 1) 26 _ (0, 0) _ _ (by rfl) (by rfl) HZ9.out Tryz.underlying26 rfl (infoUsrS _)
  rcases HB2 with _ | _
  · have HNo : Hid (q = (zeroU, 72)) := Lib.hid (HM2.out (fun t _ h => of_decide_eq_false HHB.out.2 h.2.2.1))
    go_upto_region 17 with (fail)
    refine wp_region_q (by kernel_rfl) (by kernel_rfl) ?_
    (repeat (go_big_quiet_step (first | (go_at_call 55; with_reducible exact calls_q (HH1.out _ (HNb.out.q (QW.le _)))) | (go_at_call 55; with_reducible exact calls_q (HH2.out _ (HNb.out.q (QW.le _)))))))
    refine wpQuiet_nil ?_
    rintro wr ⟨mr, hmr⟩
    have hqr : Q v3 wr := by rw [hmr]; exact mr.le
    have HAr := Lib.hid (HA3.out.mv hqr)
    have HLr := Lib.hid (HLb.out.q hqr)
    clear mr hmr HA3 hqr
    obtain ⟨u0, u1, u2⟩ := HAr.out.o.c
    simp only [zeroU] at u0 u1 u2
    go_wp2_with (refine wpList_store_row rfl 26 _ _ rfl (N + 1) (userC zeroU).toArray (by rfl) (by rfl) 26 _ HAr.out.z (infoUsrS _) rfl (userC_one _) ?_)
    have hz9 := HAr.out.z.row zeroU
    have hq9 : Q w (wr.setRow (N + 1) (userC zeroU).toArray) := ((GX.refl [N + 1] wr).setRow (by simp) _).toQ HAr.out.q (fun k hk => by have := HAr.out.lo; simp at hk; omega)
    generalize wr.setRow (N + 1) (userC zeroU).toArray = W9 at hz9 hq9 ⊢
    have HZ9 := Lib.hid hz9
    have HQ9 := Lib.hid hq9
    clear hz9 hq9 u0 u1 u2
    go_wp2_with fail
    refine bodyPost_ret (v := .tuple #[.agg (userC zeroU).toArray, .int .i64 72]) ?_ rfl (by unfold CkPost; rw [HNo.out]; exact ⟨rfl, HQ9.out⟩)
    exact results_cell_row2 rfl _ _ (N + 1) 26 _ (0, 0) _ _ (by rfl) (by rfl) HZ9.out Tryz.underlying26 rfl (infoUsrS _)
  by_cases hw0 : WN < 0
  · have g5 : decide (WN < 0) = true := by simpa using hw0
    have HNo : Hid (q = (zeroU, 72)) := Lib.hid (HM2.out (fun t ht => by
      rcases HWN.out with ⟨h, _⟩ | ⟨_, h⟩
      · omega
      · rw [stampQ_none h] at ht; cases ht))
    clear hw0
    go_upto_region 17 with (fail)
    refine wp_region_q (by kernel_rfl) (by kernel_rfl) ?_
    (repeat (go_big_quiet_step (first | (go_at_call 55; with_reducible exact calls_q (HH1.out _ (HNb.out.q (QW.le _)))) | (go_at_call 55; with_reducible exact calls_q (HH2.out _ (HNb.out.q (QW.le _)))))))
    refine wpQuiet_nil ?_
    rintro wr ⟨mr, hmr⟩
    have hqr : Q v3 wr := by rw [hmr]; exact mr.le
    have HAr := Lib.hid (HA3.out.mv hqr)
    have HLr := Lib.hid (HLb.out.q hqr)
    clear mr hmr HA3 hqr
    obtain ⟨u0, u1, u2⟩ := HAr.out.o.c
    simp only [zeroU] at u0 u1 u2
    go_wp2_with (refine wpList_store_row rfl 26 _ _ rfl (N + 1) (userC zeroU).toArray (by rfl) (by rfl) 26 _ HAr.out.z (infoUsrS _) rfl (userC_one _) ?_)
    have hz9 := HAr.out.z.row zeroU
    have hq9 : Q w (wr.setRow (N + 1) (userC zeroU).toArray) := ((GX.refl [N + 1] wr).setRow (by simp) _).toQ HAr.out.q (fun k hk => by have := HAr.out.lo; simp at hk; omega)
    generalize wr.setRow (N + 1) (userC zeroU).toArray = W9 at hz9 hq9 ⊢
    have HZ9 := Lib.hid hz9
    have HQ9 := Lib.hid hq9
    clear hz9 hq9 u0 u1 u2
    go_wp2_with fail
    refine bodyPost_ret (v := .tuple #[.agg (userC zeroU).toArray, .int .i64 72]) ?_ rfl (by unfold CkPost; rw [HNo.out]; exact ⟨rfl, HQ9.out⟩)
    exact results_cell_row2 rfl _ _ (N + 1) 26 _ (0, 0) _ _ (by rfl) (by rfl) HZ9.out Tryz.underlying26 rfl (infoUsrS _)
  have g5 : decide (WN < 0) = false := by simpa using hw0
  have hst : stampL WN = STV ∧ TimeOk WN := by
    rcases HWN.out with ⟨h, h2⟩ | ⟨h, _⟩
    · exact ⟨h2, h⟩
    · omega
  have HST : Hid (stampQ STV = some WN) := Lib.hid (stampQ_some hst.2 hst.1)
  have hst16 : STV.length = 16 := by rw [← hst.1]; rfl
  have hst8 : (8 : Int) ≤ (STV.length : Int) := by omega
  have hsub8 : sub STV 0 8 = STV.take 8 := sub_zero0 _ _
  clear hst hw0
  by_cases hday : STV.take 8 = xd
  rotate_left
  · have HNo : Hid (q = (zeroU, 72)) := Lib.hid (HM2.out (fun t _ h => hday h.2.2.2))
    have g6 : (STV.take 8 == xd) = false := by simpa using hday
    have g6' : (STV.take 8 != xd) = true := by simpa using hday
    clear hday
    go_upto_region 17 with (fail)
    refine wp_region_q (by kernel_rfl) (by kernel_rfl) ?_
    (repeat (go_big_quiet_step (first | (go_at_call 55; with_reducible exact calls_q (HH1.out _ (HNb.out.q (QW.le _)))) | (go_at_call 55; with_reducible exact calls_q (HH2.out _ (HNb.out.q (QW.le _)))))))
    refine wpQuiet_nil ?_
    rintro wr ⟨mr, hmr⟩
    have hqr : Q v3 wr := by rw [hmr]; exact mr.le
    have HAr := Lib.hid (HA3.out.mv hqr)
    have HLr := Lib.hid (HLb.out.q hqr)
    clear mr hmr HA3 hqr
    obtain ⟨u0, u1, u2⟩ := HAr.out.o.c
    simp only [zeroU] at u0 u1 u2
    go_wp2_with (refine wpList_store_row rfl 26 _ _ rfl (N + 1) (userC zeroU).toArray (by rfl) (by rfl) 26 _ HAr.out.z (infoUsrS _) rfl (userC_one _) ?_)
    have hz9 := HAr.out.z.row zeroU
    have hq9 : Q w (wr.setRow (N + 1) (userC zeroU).toArray) := ((GX.refl [N + 1] wr).setRow (by simp) _).toQ HAr.out.q (fun k hk => by have := HAr.out.lo; simp at hk; omega)
    generalize wr.setRow (N + 1) (userC zeroU).toArray = W9 at hz9 hq9 ⊢
    have HZ9 := Lib.hid hz9
    have HQ9 := Lib.hid hq9
    clear hz9 hq9 u0 u1 u2
    go_wp2_with fail
    refine bodyPost_ret (v := .tuple #[.agg (userC zeroU).toArray, .int .i64 72]) ?_ rfl (by unfold CkPost; rw [HNo.out]; exact ⟨rfl, HQ9.out⟩)
    exact results_cell_row2 rfl _ _ (N + 1) 26 _ (0, 0) _ _ (by rfl) (by rfl) HZ9.out Tryz.underlying26 rfl (infoUsrS _)
  have g6 : (STV.take 8 == xd) = true := by simpa using hday
  have g6' : (STV.take 8 != xd) = false := by simpa using hday
  have HWh : Hid (∀ X, whoQ ⟨m, tg, minor, fs, body, close⟩ us now rg ⟨xi, xd, xr, xs, xn⟩ CV STV WN = X → q = X) := Lib.hid (fun X h => HCM.out _ (by
    unfold claimQ; simp only [HCQ.out rfl, HFD1.out rfl, HST.out]
    rw [if_pos ⟨HRG.out, of_decide_eq_true HHB.out.1, of_decide_eq_true HHB.out.2, hday⟩]; exact h))
  clear hday
  go_upto_region 17 with (fail)
  refine wp_region_q (by kernel_rfl) (by kernel_rfl) ?_
  (repeat (go_big_quiet_step (first | (go_at_call 55; with_reducible exact calls_q (HH1.out _ (HNb.out.q (QW.le _)))) | (go_at_call 55; with_reducible exact calls_q (HH2.out _ (HNb.out.q (QW.le _)))))))
  refine wpQuiet_nil ?_
  rintro wr ⟨mr, hmr⟩
  have hqr : Q v3 wr := by rw [hmr]; exact mr.le
  have HAr := Lib.hid (HA3.out.mv hqr)
  have HLr := Lib.hid (HLb.out.q hqr)
  clear mr hmr HA3 hqr
  clear x1 x4 g5 g6 g6' hst8 hsub8 HH1 HH2 HM2 HCM HNb
  have HUr := Lib.hid (HU.out.q HAr.out.q)
  have HAT0 : Hid ((Value.int .i64 (-1)) = .int .i64 (atF us xi (((k : Nat) : Int) - 1 + 1).toNat)) := Lib.hid (by
    have e : (((k : Nat) : Int) - 1 + 1).toNat = us.length := by rw [← HKL.out]; omega
    rw [e, atF_end])
  clear HU
  go_wp2_with fail
  go_loopw [21, 22] (fun sa si wx => ∃ z : Int, -1 ≤ z ∧ z < (k : Int) ∧ si = .int .i64 z ∧ sa = .int .i64 (atF us xi (z + 1).toNat) ∧ Hid (Q wr wx)) (fun _ si _ => (intOf si + 1).toNat)
  case atStart => exact ⟨((k : Nat) : Int) - 1, by omega, by omega, rfl, HAT0.out, Lib.hid (Q.refl _)⟩
  case round =>
    obtain ⟨z, hz0, hz1, rfl, rfl, HQx⟩ := hrel
    rename World => wa
    by_cases hzn : 0 ≤ z
    · obtain ⟨mj, rfl⟩ := Int.eq_ofNat_of_zero_le hzn
      have hmk : mj < k := by omega
      have g1 : decide ((0 : Int) ≤ ((mj : Nat) : Int)) = true := by simp
      obtain ⟨gb, ob, hB, f0, f1, f2⟩ := (HUr.out.q HQx.out).at hmk
      subst hB
      have hst := atF_step (us := us) (id := xi) (j := mj) (by have := HKL.out; omega)
      have e1 : (((mj : Nat) : Int) + 1).toNat = mj + 1 := by omega
      have e2 : (((mj : Nat) : Int) - 1 + 1).toNat = mj := by omega
      rw [e1]
      obtain ⟨AT, hAT⟩ : ∃ a, atF us xi (mj + 1) = a := ⟨_, rfl⟩
      rw [hAT] at hst ⊢
      obtain ⟨UI, hUI⟩ : ∃ u, (gUs us mj).id = u := ⟨_, rfl⟩
      rw [hUI] at hst f1
      have k1 : ∀ mm : QW wa, mm.val.cell? ⟨gb, ob + mj * 3 + 1, none⟩ = some (.string ⟨UI.toArray⟩) := fun mm => mm.cell f1
      have x0 : ∀ mm : QW wa, mm.val.cell? ⟨M, 0, none⟩ = some (.string ⟨xi.toArray⟩) := fun mm => mm.cell (HLr.out.q HQx.out).c.1
      have HE2 := Lib.hid e2
      clear f0 f1 f2 e1 hAT hUI e2 HAT0
      by_cases hu : UI = xi
      · have HR : Hid ((Value.int .i64 ((mj : Nat) : Int)) = .int .i64 (atF us xi (((mj : Nat) : Int) - 1 + 1).toNat)) := Lib.hid (by rw [HE2.out, hst, if_pos hu])
        have g2 : (UI == xi) = true := by simpa using hu
        clear hu hst
        go_upto_region 23 with (fail)
        refine wp_region_q (by kernel_rfl) (by kernel_rfl) ?_
        (repeat (go_big_quiet_step (fail)))
        refine wpQuiet_nil ?_
        rintro wx ⟨mx, hmx⟩
        have hqx : Q wa wx := by rw [hmx]; exact mx.le
        have HQy := Lib.hid (HQx.out.trans hqx)
        clear mx hmx hqx k1 x0 HQx
        go_wp2_with fail
        go_roundw
        case rel => exact ⟨((mj : Nat) : Int) - 1, by omega, by omega, rfl, HR.out, HQy⟩
        case measure => simp [intOf]; try omega
      · have HR : Hid ((Value.int .i64 AT) = .int .i64 (atF us xi (((mj : Nat) : Int) - 1 + 1).toNat)) := Lib.hid (by rw [HE2.out, hst, if_neg hu])
        have g2 : (UI == xi) = false := by simpa using hu
        clear hu hst
        go_upto_region 23 with (fail)
        refine wp_region_q (by kernel_rfl) (by kernel_rfl) ?_
        (repeat (go_big_quiet_step (fail)))
        refine wpQuiet_nil ?_
        rintro wx ⟨mx, hmx⟩
        have hqx : Q wa wx := by rw [hmx]; exact mx.le
        have HQy := Lib.hid (HQx.out.trans hqx)
        clear mx hmx hqx k1 x0 HQx
        go_wp2_with fail
        go_roundw
        case rel => exact ⟨((mj : Nat) : Int) - 1, by omega, by omega, rfl, HR.out, HQy⟩
        case measure => simp [intOf]; try omega
    · have hz : z = -1 := by omega
      subst hz
      have e0 : ((-1 : Int) + 1).toNat = 0 := by decide
      rw [e0, atF_zero]
      have g1 : decide ((0 : Int) ≤ -1) = false := by decide
      have HAz := Lib.hid (HAr.out.mv HQx.out)
      have HLz := Lib.hid (HLr.out.q HQx.out)
      have HUz := Lib.hid (HUr.out.q HQx.out)
      clear e0 hzn hz0 hz1 HAr HLr HUr HQx HAT0
      rcases idxU_find xi us with ⟨h1, hfi⟩ | ⟨ku, hku, h1, hfi⟩
      · rw [h1]
        have HNo : Hid (q = (zeroU, 73)) := Lib.hid (HWh.out _ (by unfold whoQ; simp only; rw [hfi]))
        have g2 : decide ((-1 : Int) < 0) = true := by decide
        clear h1 hfi HWh
        obtain ⟨u0, u1, u2⟩ := HAz.out.o.c
        simp only [zeroU] at u0 u1 u2
        go_wp2_with (refine wpList_store_row rfl 26 _ _ rfl (N + 1) (userC zeroU).toArray (by rfl) (by rfl) 26 _ HAz.out.z (infoUsrS _) rfl (userC_one _) ?_)
        have hz9 := HAz.out.z.row zeroU
        have hq9 : Q w (wa.setRow (N + 1) (userC zeroU).toArray) := ((GX.refl [N + 1] wa).setRow (by simp) _).toQ HAz.out.q (fun k hk => by have := HAz.out.lo; simp at hk; omega)
        generalize wa.setRow (N + 1) (userC zeroU).toArray = W9 at hz9 hq9 ⊢
        have HZ9 := Lib.hid hz9
        have HQ9 := Lib.hid hq9
        clear hz9 hq9 u0 u1 u2
        go_wp2_with fail
        refine bodyPost_ret (v := .tuple #[.agg (userC zeroU).toArray, .int .i64 73]) ?_ rfl (by unfold CkPost; rw [HNo.out]; exact ⟨rfl, HQ9.out⟩)
        exact results_cell_row2 rfl _ _ (N + 1) 26 _ (0, 0) _ _ (by rfl) (by rfl) HZ9.out Tryz.underlying26 rfl (infoUsrS _)
      rw [h1]
      have hWho : ∀ X, (if 900 < max (WN - now) (now - WN) then (zeroU, 75) else if sigL (gUs us ku).sec STV rg CV ≠ xs then (zeroU, 74) else if (fieldL fs bodySumL).getD [] ≠ unsignedL ∧ (fieldL fs bodySumL).getD [] ≠ hexL (sha body) then (zeroU, 76) else (gUs us ku, 0)) = X → q = X := fun X h => HWh.out _ (by unfold whoQ; simp only; rw [hfi]; exact h)
      have HWho := Lib.hid hWho
      have g2 : decide (((ku : Nat) : Int) < 0) = false := by simp
      have hkk : ku < k := by rw [HKL.out]; exact hku
      obtain ⟨gb, ob, hB, f0, f1, f2⟩ := HUz.out.at hkk
      subst hB
      have husec : (gUs us ku).sec.length ≤ 10000000 := by
        have e : gUs us ku = us[ku] := by simp [gUs, List.getD, hku]
        rw [e]; exact HUS.out _ (List.getElem_mem hku)
      obtain ⟨nl, nh⟩ := HT.out
      have HF : Hid (wa.cell? ⟨gb, ob + ku * 3, none⟩ = some (.string ⟨(gUs us ku).name.toArray⟩) ∧ wa.cell? ⟨gb, ob + ku * 3 + 1, none⟩ = some (.string ⟨(gUs us ku).id.toArray⟩) ∧ wa.cell? ⟨gb, ob + ku * 3 + 2, none⟩ = some (.string ⟨(gUs us ku).sec.toArray⟩)) := Lib.hid ⟨f0, f1, f2⟩
      clear h1 hfi hku hWho HWh f0 f1 f2
      by_cases ht1 : 900 < WN - now
      · have HNo : Hid (q = (zeroU, 75)) := Lib.hid (HWho.out _ (by rw [if_pos (by omega)]))
        have g3 : decide ((900 : Int) < WN - now) = true := by simpa using ht1
        clear ht1
        obtain ⟨u0, u1, u2⟩ := HAz.out.o.c
        simp only [zeroU] at u0 u1 u2
        go_wp2_with (refine wpList_store_row rfl 26 _ _ rfl (N + 1) (userC zeroU).toArray (by rfl) (by rfl) 26 _ HAz.out.z (infoUsrS _) rfl (userC_one _) ?_)
        have hz9 := HAz.out.z.row zeroU
        have hq9 : Q w (wa.setRow (N + 1) (userC zeroU).toArray) := ((GX.refl [N + 1] wa).setRow (by simp) _).toQ HAz.out.q (fun k hk => by have := HAz.out.lo; simp at hk; omega)
        generalize wa.setRow (N + 1) (userC zeroU).toArray = W9 at hz9 hq9 ⊢
        have HZ9 := Lib.hid hz9
        have HQ9 := Lib.hid hq9
        clear hz9 hq9 u0 u1 u2
        go_wp2_with fail
        refine bodyPost_ret (v := .tuple #[.agg (userC zeroU).toArray, .int .i64 75]) ?_ rfl (by unfold CkPost; rw [HNo.out]; exact ⟨rfl, HQ9.out⟩)
        exact results_cell_row2 rfl _ _ (N + 1) 26 _ (0, 0) _ _ (by rfl) (by rfl) HZ9.out Tryz.underlying26 rfl (infoUsrS _)
      have g3 : decide ((900 : Int) < WN - now) = false := by simpa using ht1
      by_cases ht2 : 900 < now - WN
      · have HNo : Hid (q = (zeroU, 75)) := Lib.hid (HWho.out _ (by rw [if_pos (by omega)]))
        have g4 : decide ((900 : Int) < now - WN) = true := by simpa using ht2
        clear ht1 ht2
        obtain ⟨u0, u1, u2⟩ := HAz.out.o.c
        simp only [zeroU] at u0 u1 u2
        go_wp2_with (refine wpList_store_row rfl 26 _ _ rfl (N + 1) (userC zeroU).toArray (by rfl) (by rfl) 26 _ HAz.out.z (infoUsrS _) rfl (userC_one _) ?_)
        have hz9 := HAz.out.z.row zeroU
        have hq9 : Q w (wa.setRow (N + 1) (userC zeroU).toArray) := ((GX.refl [N + 1] wa).setRow (by simp) _).toQ HAz.out.q (fun k hk => by have := HAz.out.lo; simp at hk; omega)
        generalize wa.setRow (N + 1) (userC zeroU).toArray = W9 at hz9 hq9 ⊢
        have HZ9 := Lib.hid hz9
        have HQ9 := Lib.hid hq9
        clear hz9 hq9 u0 u1 u2
        go_wp2_with fail
        refine bodyPost_ret (v := .tuple #[.agg (userC zeroU).toArray, .int .i64 75]) ?_ rfl (by unfold CkPost; rw [HNo.out]; exact ⟨rfl, HQ9.out⟩)
        exact results_cell_row2 rfl _ _ (N + 1) 26 _ (0, 0) _ _ (by rfl) (by rfl) HZ9.out Tryz.underlying26 rfl (infoUsrS _)
      have g4 : decide ((900 : Int) < now - WN) = false := by simpa using ht2
      have HWh2 : Hid (∀ X, (if sigL (gUs us ku).sec STV rg CV ≠ xs then (zeroU, 74) else if (fieldL fs bodySumL).getD [] ≠ unsignedL ∧ (fieldL fs bodySumL).getD [] ≠ hexL (sha body) then (zeroU, 76) else (gUs us ku, 0)) = X → q = X) := Lib.hid (fun X h => HWho.out _ (by rw [if_neg (by omega)]; exact h))
      clear ht1 ht2 HWho
      obtain ⟨⟨un, ui, uc⟩, hgu⟩ : ∃ u, gUs us ku = u := ⟨_, rfl⟩
      rw [hgu] at HWh2 HF husec
      simp only at HWh2 HF husec
      obtain ⟨SG, hSG⟩ : ∃ g, sigL uc STV rg CV = g := ⟨_, rfl⟩
      have HSg : Hid (∀ W, Calls Tryz.prog 52 #[.string ⟨uc.toArray⟩, .string ⟨STV.toArray⟩, .string ⟨rg.toArray⟩, .string ⟨CV.toArray⟩] W fun e w' => e = .returned (.string ⟨SG.toArray⟩) ∧ Q W w') := Lib.hid (fun W => by rw [← hSG]; exact RSignature_any uc STV rg CV W (by omega) (by omega) hRgl hcl)
      rw [hSG] at HWh2
      have k2 : ∀ mm : QW wa, mm.val.cell? ⟨gb, ob + ku * 3 + 2, none⟩ = some (.string ⟨uc.toArray⟩) := fun mm => mm.cell HF.out.2.2
      have x3 : ∀ mm : QW wa, mm.val.cell? ⟨M, 3, none⟩ = some (.string ⟨xs.toArray⟩) := fun mm => mm.cell HLz.out.c.2.2.2.1
      clear hgu hSG
      by_cases hsg : SG = xs
      rotate_left
      · have HNo : Hid (q = (zeroU, 74)) := Lib.hid (HWh2.out _ (by rw [if_pos hsg]))
        have g5 : (SG == xs) = false := by simpa using hsg
        have g5' : (SG != xs) = true := by simpa using hsg
        clear hsg
        go_upto_region 29 with (fail)
        refine wp_region_q (by kernel_rfl) (by kernel_rfl) ?_
        (repeat (go_big_quiet_step ((go_at_call 52; exact calls_q (HSg.out _)))))
        refine wpQuiet_nil ?_
        rintro wv ⟨mv, hmv⟩
        have hqv : Q wa wv := by rw [hmv]; exact mv.le
        have HAv := Lib.hid (HAz.out.mv hqv)
        have HFv : Hid (wv.cell? ⟨gb, ob + ku * 3, none⟩ = some (.string ⟨un.toArray⟩) ∧ wv.cell? ⟨gb, ob + ku * 3 + 1, none⟩ = some (.string ⟨ui.toArray⟩) ∧ wv.cell? ⟨gb, ob + ku * 3 + 2, none⟩ = some (.string ⟨uc.toArray⟩)) := Lib.hid ⟨hqv.cell HF.out.1, hqv.cell HF.out.2.1, hqv.cell HF.out.2.2⟩
        clear mv hmv hqv k2 x3 HSg HAz HF
        obtain ⟨u0, u1, u2⟩ := HAv.out.o.c
        simp only [zeroU] at u0 u1 u2
        go_wp2_with (refine wpList_store_row rfl 26 _ _ rfl (N + 1) (userC zeroU).toArray (by rfl) (by rfl) 26 _ HAv.out.z (infoUsrS _) rfl (userC_one _) ?_)
        have hz9 := HAv.out.z.row zeroU
        have hq9 : Q w (wv.setRow (N + 1) (userC zeroU).toArray) := ((GX.refl [N + 1] wv).setRow (by simp) _).toQ HAv.out.q (fun k hk => by have := HAv.out.lo; simp at hk; omega)
        generalize wv.setRow (N + 1) (userC zeroU).toArray = W9 at hz9 hq9 ⊢
        have HZ9 := Lib.hid hz9
        have HQ9 := Lib.hid hq9
        clear hz9 hq9 u0 u1 u2
        go_wp2_with fail
        refine bodyPost_ret (v := .tuple #[.agg (userC zeroU).toArray, .int .i64 74]) ?_ rfl (by unfold CkPost; rw [HNo.out]; exact ⟨rfl, HQ9.out⟩)
        exact results_cell_row2 rfl _ _ (N + 1) 26 _ (0, 0) _ _ (by rfl) (by rfl) HZ9.out Tryz.underlying26 rfl (infoUsrS _)
      have g5 : (SG == xs) = true := by simpa using hsg
      have g5' : (SG != xs) = false := by simpa using hsg
      have HWh3 : Hid (∀ X, (if (fieldL fs bodySumL).getD [] ≠ unsignedL ∧ (fieldL fs bodySumL).getD [] ≠ hexL (sha body) then (zeroU, 76) else (⟨un, ui, uc⟩, 0)) = X → q = X) := Lib.hid (fun X h => HWh2.out _ (by rw [if_neg (fun e => e hsg)]; exact h))
      clear hsg HWh2
      go_upto_region 29 with (fail)
      refine wp_region_q (by kernel_rfl) (by kernel_rfl) ?_
      (repeat (go_big_quiet_step ((go_at_call 52; exact calls_q (HSg.out _)))))
      refine wpQuiet_nil ?_
      rintro wv ⟨mv, hmv⟩
      have hqv : Q wa wv := by rw [hmv]; exact mv.le
      have HAv := Lib.hid (HAz.out.mv hqv)
      have HFv : Hid (wv.cell? ⟨gb, ob + ku * 3, none⟩ = some (.string ⟨un.toArray⟩) ∧ wv.cell? ⟨gb, ob + ku * 3 + 1, none⟩ = some (.string ⟨ui.toArray⟩) ∧ wv.cell? ⟨gb, ob + ku * 3 + 2, none⟩ = some (.string ⟨uc.toArray⟩)) := Lib.hid ⟨hqv.cell HF.out.1, hqv.cell HF.out.2.1, hqv.cell HF.out.2.2⟩
      clear mv hmv hqv k2 x3 HSg HAz HF
      clear g5 g5' g3 g4
      obtain ⟨FB, hFB⟩ : ∃ x', fieldL fs bodySumL = x' := ⟨_, rfl⟩
      obtain ⟨SV, hSV⟩ : ∃ x', FB.getD [] = x' := ⟨_, rfl⟩
      obtain ⟨SB, hSB⟩ : ∃ x', FB.isSome = x' := ⟨_, rfl⟩
      have hsvl : SV.length ≤ 1055000 := by
        rw [← hSV]
        rcases FB with _ | v
        · simp
        · exact HFL.out bodySumL v hFB
      have HFd3 : Hid (∀ W, Q w W → Calls Tryz.prog 40 #[.slice A n c, .string ⟨#[120, 45, 97, 109, 122, 45, 99, 111, 110, 116, 101, 110, 116, 45, 115, 104, 97, 50, 53, 54]⟩] W fun e w' => e = .returned (.tuple #[.string ⟨SV.toArray⟩, .bool SB]) ∧ Q W w') := Lib.hid (fun W hq => by
        have := HFd.out bodySumL W (by decide) hq
        rw [hFB, hSV, hSB] at this; exact this)
      rw [hFB, hSV] at HWh3
      clear hFB hSV hSB HFd
      obtain ⟨b0, b1, b2, b3, b4, b5⟩ := HAv.out.b.c
      simp only at b0 b1 b2 b4 b5
      go_wp2_with fail
      refine (HFd3.out _ HAv.out.q).mono ?_
      rintro e wy ⟨rfl, hqy⟩
      have HAy := Lib.hid (HAv.out.mv hqy)
      have HFy : Hid (wy.cell? ⟨gb, ob + ku * 3, none⟩ = some (.string ⟨un.toArray⟩) ∧ wy.cell? ⟨gb, ob + ku * 3 + 1, none⟩ = some (.string ⟨ui.toArray⟩) ∧ wy.cell? ⟨gb, ob + ku * 3 + 2, none⟩ = some (.string ⟨uc.toArray⟩)) := Lib.hid ⟨hqy.cell HFv.out.1, hqy.cell HFv.out.2.1, hqy.cell HFv.out.2.2⟩
      clear hqy b0 b1 b2 b3 b4 b5 HAv HFv HFd3
      by_cases hun : SV = unsignedL
      · have HYes : Hid (q = (⟨un, ui, uc⟩, 0)) := Lib.hid (HWh3.out _ (by rw [if_neg (fun e => e.1 hun)]))
        unfold unsignedL at hun
        have g6 : (SV == [85, 78, 83, 73, 71, 78, 69, 68, 45, 80, 65, 89, 76, 79, 65, 68]) = true := by simpa using hun
        have g6' : (SV != [85, 78, 83, 73, 71, 78, 69, 68, 45, 80, 65, 89, 76, 79, 65, 68]) = false := by simpa using hun
        clear hun HWh3
        obtain ⟨f0, f1, f2⟩ := HFy.out
        go_wp2_with (refine wpList_store_row rfl 26 _ _ rfl (N + 1) (userC ⟨un, ui, uc⟩).toArray (by rfl) (by rfl) 26 _ HAy.out.z (infoUsrS _) rfl (userC_one _) ?_)
        have hz9 := HAy.out.z.row ⟨un, ui, uc⟩
        have hq9 : Q w (wy.setRow (N + 1) (userC ⟨un, ui, uc⟩).toArray) := ((GX.refl [N + 1] wy).setRow (by simp) _).toQ HAy.out.q (fun k hk => by have := HAy.out.lo; simp at hk; omega)
        generalize wy.setRow (N + 1) (userC ⟨un, ui, uc⟩).toArray = W9 at hz9 hq9 ⊢
        have HZ9 := Lib.hid hz9
        have HQ9 := Lib.hid hq9
        clear hz9 hq9 f0 f1 f2
        go_wp2_with fail
        refine bodyPost_ret (v := .tuple #[.agg (userC ⟨un, ui, uc⟩).toArray, .int .i64 0]) ?_ rfl (by unfold CkPost; rw [HYes.out]; exact ⟨rfl, HQ9.out⟩)
        exact results_cell_row2 rfl _ _ (N + 1) 26 _ (0, 0) _ _ (by rfl) (by rfl) HZ9.out Tryz.underlying26 rfl (infoUsrS _)
      have HWh4 : Hid (∀ X, (if SV ≠ hexL (sha body) then (zeroU, 76) else (⟨un, ui, uc⟩, 0)) = X → q = X) := Lib.hid (fun X h => HWh3.out _ (by
        rw [← h]
        by_cases h2 : SV ≠ hexL (sha body)
        · rw [if_pos ⟨hun, h2⟩, if_pos h2]
        · rw [if_neg (fun e => h2 e.2), if_neg h2]))
      unfold unsignedL at hun
      have g6 : (SV == [85, 78, 83, 73, 71, 78, 69, 68, 45, 80, 65, 89, 76, 79, 65, 68]) = false := by simpa using hun
      have g6' : (SV != [85, 78, 83, 73, 71, 78, 69, 68, 45, 80, 65, 89, 76, 79, 65, 68]) = true := by simpa using hun
      clear hun HWh3
      obtain ⟨HX, hHX⟩ : ∃ x, hexL (sha body) = x := ⟨_, rfl⟩
      obtain ⟨SH, hSH⟩ : ∃ x, sha body = x := ⟨_, rfl⟩
      rw [hHX] at HHx HWh4
      rw [hSH] at HHx HSh
      clear hHX hSH
      obtain ⟨b0, b1, b2, b3, b4, b5⟩ := HAy.out.b.c
      simp only at b0 b1 b2 b3 b5
      go_wp2_with fail
      refine (HSh.out _).mono ?_
      rintro e ws ⟨rfl, hqs⟩
      go_wp2_with fail
      refine (HHx.out _).mono ?_
      rintro e wt ⟨rfl, hqt⟩
      have HAt := Lib.hid ((HAy.out.mv hqs).mv hqt)
      have HFt : Hid (wt.cell? ⟨gb, ob + ku * 3, none⟩ = some (.string ⟨un.toArray⟩) ∧ wt.cell? ⟨gb, ob + ku * 3 + 1, none⟩ = some (.string ⟨ui.toArray⟩) ∧ wt.cell? ⟨gb, ob + ku * 3 + 2, none⟩ = some (.string ⟨uc.toArray⟩)) := Lib.hid ⟨hqt.cell (hqs.cell HFy.out.1), hqt.cell (hqs.cell HFy.out.2.1), hqt.cell (hqs.cell HFy.out.2.2)⟩
      clear hqs hqt b0 b1 b2 b3 b4 b5 HAy HFy HSh HHx
      by_cases hx : SV = HX
      rotate_left
      · have HNo : Hid (q = (zeroU, 76)) := Lib.hid (HWh4.out _ (by rw [if_pos hx]))
        have g7 : (SV == HX) = false := by simpa using hx
        have g7' : (SV != HX) = true := by simpa using hx
        clear hx
        obtain ⟨u0, u1, u2⟩ := HAt.out.o.c
        simp only [zeroU] at u0 u1 u2
        go_wp2_with (refine wpList_store_row rfl 26 _ _ rfl (N + 1) (userC zeroU).toArray (by rfl) (by rfl) 26 _ HAt.out.z (infoUsrS _) rfl (userC_one _) ?_)
        have hz9 := HAt.out.z.row zeroU
        have hq9 : Q w (wt.setRow (N + 1) (userC zeroU).toArray) := ((GX.refl [N + 1] wt).setRow (by simp) _).toQ HAt.out.q (fun k hk => by have := HAt.out.lo; simp at hk; omega)
        generalize wt.setRow (N + 1) (userC zeroU).toArray = W9 at hz9 hq9 ⊢
        have HZ9 := Lib.hid hz9
        have HQ9 := Lib.hid hq9
        clear hz9 hq9 u0 u1 u2
        go_wp2_with fail
        refine bodyPost_ret (v := .tuple #[.agg (userC zeroU).toArray, .int .i64 76]) ?_ rfl (by unfold CkPost; rw [HNo.out]; exact ⟨rfl, HQ9.out⟩)
        exact results_cell_row2 rfl _ _ (N + 1) 26 _ (0, 0) _ _ (by rfl) (by rfl) HZ9.out Tryz.underlying26 rfl (infoUsrS _)
      have HYes : Hid (q = (⟨un, ui, uc⟩, 0)) := Lib.hid (HWh4.out _ (by rw [if_neg (fun e => e hx)]))
      have g7 : (SV == HX) = true := by simpa using hx
      have g7' : (SV != HX) = false := by simpa using hx
      clear hx
      obtain ⟨f0, f1, f2⟩ := HFt.out
      go_wp2_with (refine wpList_store_row rfl 26 _ _ rfl (N + 1) (userC ⟨un, ui, uc⟩).toArray (by rfl) (by rfl) 26 _ HAt.out.z (infoUsrS _) rfl (userC_one _) ?_)
      have hz9 := HAt.out.z.row ⟨un, ui, uc⟩
      have hq9 : Q w (wt.setRow (N + 1) (userC ⟨un, ui, uc⟩).toArray) := ((GX.refl [N + 1] wt).setRow (by simp) _).toQ HAt.out.q (fun k hk => by have := HAt.out.lo; simp at hk; omega)
      generalize wt.setRow (N + 1) (userC ⟨un, ui, uc⟩).toArray = W9 at hz9 hq9 ⊢
      have HZ9 := Lib.hid hz9
      have HQ9 := Lib.hid hq9
      clear hz9 hq9 f0 f1 f2
      go_wp2_with fail
      refine bodyPost_ret (v := .tuple #[.agg (userC ⟨un, ui, uc⟩).toArray, .int .i64 0]) ?_ rfl (by unfold CkPost; rw [HYes.out]; exact ⟨rfl, HQ9.out⟩)
      exact results_cell_row2 rfl _ _ (N + 1) 26 _ (0, 0) _ _ (by rfl) (by rfl) HZ9.out Tryz.underlying26 rfl (infoUsrS _)
end Go.Proofs.YtmmoenbmgcplkaaGreatDoor
