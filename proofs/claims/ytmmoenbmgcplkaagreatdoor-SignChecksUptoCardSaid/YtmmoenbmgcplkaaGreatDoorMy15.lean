/- Texts of this proof, laid into one: SgV. -/
import Derived.Test.YtmmoenbmgcplkaaGreatDoorMy14
set_option linter.unusedVariables false
set_option linter.unusedSimpArgs false
namespace Go.Proofs.YtmmoenbmgcplkaaGreatDoor
open Go Go.RowKit
structure ChkOk (r : ReqD) (us : List UserD) (rg : List UInt8) : Prop where
  rq : ReqOk r
  body : r.body.length ≤ 100000000
  each : ∀ p ∈ r.fs, p.2.length ≤ 1055000
  cnt : r.fs.length ≤ 1060000
  rg : rg.length ≤ 10000000
  us : ∀ u ∈ us, u.sec.length ≤ 10000000
def ChkPost (q : UserD × Int) (w : World) (e : Ending) (w' : World) : Prop :=
  ((q.2 = 0 ∧ e = .returned (.tuple #[.agg (userC q.1).toArray, .nilIface])) ∨
   (q.1 = zeroU ∧ ∃ b, e = .returned (.tuple #[.agg (userC zeroU).toArray, .iface 101 (.pointer (some ⟨b, 0, none⟩))]) ∧ FaultAt w' b q.2 0)) ∧ Q w w'
structure ChkAt (w W : World) (N : Nat) (r : ReqD) (v : Value) : Prop where
  lo : w.heap.size ≤ N
  q : Q w W
  b : RB W N r v
  z : UB W (N + 1) zeroU
theorem ChkAt.mv {w W W' : World} {N : Nat} {r : ReqD} {v : Value} (h : ChkAt w W N r v) (hq : Q W W') : ChkAt w W' N r v := ⟨h.lo, h.q.trans hq, h.b.q hq, h.z.q hq⟩
theorem check_boxes (w : World) (r : ReqD) (v : Value) : ∃ N w1 w2, w.heap.size = N ∧ w.alloc (.cells (reqV r v).toArray 24) = w1 ∧ w1.heap.size = N + 1 ∧ w1.alloc (.cells (userC zeroU).toArray 26) = w2 ∧ ChkAt w w2 N r v := by
  have q1 : Q w (w.alloc (.cells (reqV r v).toArray 24)) := (Q.refl w).alloc _
  have hs1 : (w.alloc (.cells (reqV r v).toArray 24)).heap.size = w.heap.size + 1 := by show (w.heap.push _).size = _; simp
  have b1 := RB.new w r v
  obtain ⟨w1, e1⟩ : ∃ W, w.alloc (.cells (reqV r v).toArray 24) = W := ⟨_, rfl⟩
  rw [e1] at q1 hs1 b1
  have q2 : Q w1 (w1.alloc (.cells (userC zeroU).toArray 26)) := (Q.refl w1).alloc _
  have b2 := UB.new w1 zeroU
  rw [hs1] at b2
  exact ⟨w.heap.size, w1, _, rfl, e1, hs1, rfl, Nat.le_refl _, q1.trans q2, b1.q q2, b2⟩
theorem userC_one (u : UserD) : (userC u).toArray.all (·.oneCell') = true := by simp [userC, Value.oneCell']
theorem fault_neU {w : World} {b N : Nat} {c a : Int} {u : UserD} (h : FaultAt w b c a) (hz : UB w N u) : b ≠ N := by
  intro e; subst e
  have := h.symm.trans hz
  injection this with this; injection this with _ this; exact absurd this (by decide)
theorem clm_boxes (w : World) (x : ClaimD) (v : Value) : ∃ M W W', w.heap.size = M ∧ w.alloc (.cells (claimV zeroC (.slice none 0 0)).toArray 113) = W ∧ LB W M zeroC (.slice none 0 0) ∧ W.setRow M (claimV x v).toArray = W' ∧ LB W' M x v ∧ Q w W' := by
  refine ⟨w.heap.size, _, _, rfl, rfl, heap_alloc_new w _, rfl, ?_, Q.setRow ((Q.refl w).alloc _) (Nat.le_refl _) _⟩
  exact LB.row (heap_alloc_new w _) x v
theorem usr_boxes (w : World) (u : UserD) : ∃ M W W', w.heap.size = M ∧ w.alloc (.cells (userC zeroU).toArray 26) = W ∧ UB W M zeroU ∧ W.setRow M (userC u).toArray = W' ∧ UB W' M u ∧ Q w W' := by
  refine ⟨w.heap.size, _, _, rfl, rfl, heap_alloc_new w _, rfl, ?_, Q.setRow ((Q.refl w).alloc _) (Nat.le_refl _) _⟩
  exact UB.row (heap_alloc_new w _) u
theorem read_small {s : List UInt8} {x : ClaimD} (h : readQ s = some x) : sumU x.names ≤ s.length + 1 ∧ x.names.length ≤ s.length + 1 := by
  unfold readQ at h
  split at h
  case isFalse => cases h
  case isTrue =>
    injection h with h
    subst h
    have e : (rdW s).c.names = splitC 59 (uptoP 44 (headS shdW (uptoS 44 (headS credW (headS methodL s))))) := rfl
    rw [e, sumU_split, splitC_count]
    have l1 := headS_len methodL s
    have l2 := headS_len credW (headS methodL s)
    have l3 := (upto_len 44 (headS credW (headS methodL s))).2
    have l4 := headS_len shdW (uptoS 44 (headS credW (headS methodL s)))
    have l5 := (upto_len 44 (headS shdW (uptoS 44 (headS credW (headS methodL s))))).1
    have l6 := List.count_le_length (a := (59 : UInt8)) (l := uptoP 44 (headS shdW (uptoS 44 (headS credW (headS methodL s)))))
    omega
set_option maxRecDepth 100000 in
set_option maxHeartbeats 8000000 in
theorem check_any (r : ReqD) (A : Option Addr) (n c : Nat) (B : Option Addr) (k kc : Nat) (us : List UserD) (now : Int) (rg : List UInt8) (w : World) (hf : PairsAt w A n r.fs) (hc : n ≤ c) (hcap : c ≤ 9223372036854775807) (hu : UsersAt w B k us) (hk : k ≤ 9223372036854775807) (hok : ChkOk r us rg) (hS : S17 w) :
    Calls Tryz.prog 35 #[.agg (reqC r A n c).toArray, .slice B k kc, .int .i64 now, .string ⟨rg.toArray⟩] w (ChkPost (checkQ r us now rg) w) := by
  obtain ⟨N, w1, w2, hN, e1, hN1, e2, hat⟩ := check_boxes w r (.slice A n c)
  have HA := Lib.hid hat
  have HS := Lib.hid hS
  have HU := Lib.hid hu
  have hRgl : rg.length ≤ 100000000 := by have := hok.rg; omega
  have hOKU : OkU r.fs := fun p hp => by have := heavy_mem hp; have h2 := hok.rq.hv; unfold heavy at this; omega
  have hea : ∀ p ∈ r.fs, p.1.length ≤ 10000000 ∧ p.2.length ≤ 10000000 := fun p hp => by have := heavy_mem hp; have h2 := hok.rq.hv; unfold heavy at this; omega
  have HMn := Lib.hid (fun (t : List UInt8) W (h1 : t.length ≤ 1000) (h2 : ∀ b ∈ t, b.toNat < 128) (hq : Q w W) => many_any A n c r.fs t W (hf.q hq) (by rw [hf.1]; exact Nat.le_trans hok.cnt (by omega)) hea h1 h2 (hS.fo.q hq))
  have HFd := Lib.hid (fun (t : List UInt8) W (h1 : t.length ≤ 1000) (hq : Q w W) => Field_any A n c r.fs t W (hf.q hq) hOKU (by omega) hc hcap)
  have HCn := Lib.hid (fun (D : Option Addr) (j : Nat) (ns : List (List UInt8)) W (hq : Q w W) (hn : NmAt W D j ns) (hj : j ≤ 1060000) (hs : sumU ns ≤ 10000000) => canonical_any r A n c D j j ns W (hf.q hq) hc hcap hok.rq hn (Nat.le_refl _) hj hs (hS.q hq))
  have hFl : ∀ t v, fieldL r.fs t = some v → v.length ≤ 1055000 := fun t v h => by
    unfold fieldL at h
    rcases hx : r.fs.findIdx? (isN t) with _ | i
    · rw [hx] at h; cases h
    · rw [hx] at h
      simp only at h
      split at h
      · cases h
      · injection h with h
        have hi := (List.findIdx?_eq_some_iff_findIdx_eq.1 hx).1
        have := hok.each _ (List.getElem_mem hi)
        rw [← h, gU_get _ _ hi]; exact this
  have HFL := Lib.hid hFl
  have HIx := Lib.hid (fun (b : Nat) (x : ClaimD) (v : Value) W (hq : Q w W) (hb : LB W b x v) => indexU_any B k kc b us x v W (hu.q hq) hb hk)
  have HSh := Lib.hid (fun W => Sum256_any r.body W (by have := hok.body; omega))
  have HHx := Lib.hid (fun W => Hex_any (sha r.body) W (by rw [sha_length]; omega))
  have HUS := Lib.hid hok.us
  have HCL := Lib.hid (fun (ns : List (List UInt8)) (cq : List UInt8) (h1 : sumU ns ≤ 10000000) (h2 : ns.length ≤ 1060000) (h : canonQ r ns = some cq) => canonQ_len hok.rq h1 h2 h)
  have hmle := manyL_le r.fs authL
  have hcn := hok.cnt
  obtain ⟨q, hq⟩ : ∃ q, checkQ r us now rg = q := ⟨_, rfl⟩
  have HQ := Lib.hid hq
  rw [hq]
  have hbody : r.body.length ≤ 140737488355328 := by have := hok.body; omega
  clear hat hS hf hu hOKU hea hok hFl hq hc hcap hk
  obtain ⟨m, tg, minor, fs, body, close⟩ := r
  simp only [reqV, userC, zeroU] at e1 e2
  simp only at HMn HFd HSh HHx hmle hcn HFL hbody
  unfold reqC
  by_cases ht : TimeOk now
  rotate_left
  · have HS0 := Lib.hid (fun W (_ : Q w W) => Stamp_no' now W (by unfold TimeOk at ht; omega))
    have HNo : Hid (q = (zeroU, 1)) := Lib.hid (by rw [← HQ.out]; unfold checkQ; rw [if_neg ht])
    clear ht
    go_enter Tryz.func35, Tryz.ntmps35
    go_wp2_with fail
    refine (HS0.out _ HA.out.q).mono ?_
    rintro e w4 ⟨rfl, hq4⟩
    have HA4 := Lib.hid (HA.out.mv hq4)
    clear hq4 e1 e2 hN hN1
    go_wp2_with fail
    refine (stop_any 1 _).mono ?_
    rintro e wx ⟨⟨bf, rfl, hf⟩, hq⟩
    have HAx := Lib.hid (HA4.out.mv hq)
    have HFx := Lib.hid hf
    clear hf hq
    go_wp2_with (refine wpList_store_row rfl 26 _ _ rfl (N + 1) (userC zeroU).toArray (by rfl) (by rfl) 26 _ HAx.out.z (infoUsrS _) rfl (userC_one _) ?_)
    have hz2 := HAx.out.z.row zeroU
    have hg2 : GX [N + 1] wx (wx.setRow (N + 1) (userC zeroU).toArray) := (GX.refl _ wx).setRow (by simp) _
    have hq2 : Q w (wx.setRow (N + 1) (userC zeroU).toArray) := hg2.toQ HAx.out.q (fun k hk => by have := HAx.out.lo; simp at hk; omega)
    have hf2 : FaultAt (wx.setRow (N + 1) (userC zeroU).toArray) bf 1 0 := fault_gx HFx.out hg2 (by intro e; exact fault_neU HFx.out HAx.out.z (by simpa using e))
    generalize wx.setRow (N + 1) (userC zeroU).toArray = W9 at hz2 hq2 hf2 ⊢
    clear hg2
    have HZ9 := Lib.hid hz2
    have HQ9 := Lib.hid hq2
    have HF9 := Lib.hid hf2
    clear hz2 hq2 hf2 HFx HAx
    go_wp2_with fail
    refine bodyPost_ret (v := .tuple #[.agg (userC zeroU).toArray, .iface 101 (.pointer (some ⟨bf, 0, none⟩))]) ?_ rfl (by unfold ChkPost; rw [HNo.out]; exact ⟨.inr ⟨rfl, bf, rfl, HF9.out⟩, HQ9.out⟩)
    exact results_cell_row2 rfl _ _ (N + 1) 26 _ (0, 0) _ _ (by rfl) (by rfl) HZ9.out Tryz.underlying26 rfl (infoUsrS _)
  have HS0 := Lib.hid (fun W (hq : Q w W) => Stamp_ok now W (HS.out.tab.q hq) ht.1 ht.2)
  obtain ⟨st0, hst0⟩ : ∃ st, stampL now = st := ⟨_, rfl⟩
  rw [hst0] at HS0
  have hl0 : now ≤ 253402300799 ∧ 0 ≤ now := ⟨ht.2, ht.1⟩
  obtain ⟨nl, nh⟩ := hl0
  have HT := Lib.hid ht
  clear ht hst0
  obtain ⟨MN, hMN⟩ : ∃ x, manyL fs authL = x := ⟨_, rfl⟩
  obtain ⟨FA, hFA⟩ : ∃ x, fieldL fs authL = x := ⟨_, rfl⟩
  have HMa : Hid (∀ W, Q w W → Calls Tryz.prog 26 #[.slice A n c, .string ⟨#[97, 117, 116, 104, 111, 114, 105, 122, 97, 116, 105, 111, 110]⟩] W fun e w' => e = .returned (.int .i64 (MN : Nat)) ∧ Q W w') := Lib.hid (fun W hq => by
    have := HMn.out authL W (by decide) (by decide) hq
    rw [hMN] at this; exact this)
  have HFa : Hid (∀ W, Q w W → Calls Tryz.prog 71 #[.slice A n c, .string ⟨#[97, 117, 116, 104, 111, 114, 105, 122, 97, 116, 105, 111, 110]⟩] W fun e w' => e = .returned (.tuple #[.string ⟨(FA.getD []).toArray⟩, .bool FA.isSome]) ∧ Q W w') := Lib.hid (fun W hq => by
    have := HFd.out authL W (by decide) hq
    rw [hFA] at this; exact this)
  have hAl : ∀ v, FA = some v → v.length ≤ 1055000 := fun v h => HFL.out authL v (hFA.trans h)
  rw [hMN] at hmle
  have HMN := Lib.hid hMN
  have HFA := Lib.hid hFA
  clear hMN hFA HMn
  by_cases hm0 : MN = 0
  · have gm : (((MN : Nat) : Int) == 0) = true := by rw [hm0]; rfl
    have HNo : Hid (q = (zeroU, 71)) := Lib.hid (by rw [← HQ.out]; unfold checkQ; rw [if_pos HT.out, if_pos (HMN.out.trans hm0)])
    clear hm0
    go_enter Tryz.func35, Tryz.ntmps35
    go_wp2_with fail
    refine (HS0.out _ HA.out.q).mono ?_
    rintro e w4 ⟨rfl, hq4⟩
    have HA4 := Lib.hid (HA.out.mv hq4)
    obtain ⟨b0, b1, b2, b3, b4, b5⟩ := HA4.out.b.c
    clear hq4 e1 e2 hN hN1
    go_wp2_with fail
    refine (HMa.out _ HA4.out.q).mono ?_
    rintro e w5 ⟨rfl, hq5⟩
    have HA5 := Lib.hid (HA4.out.mv hq5)
    clear hq5 b0 b1 b2 b3 b4 b5
    go_wp2_with fail
    refine (stop_any 71 _).mono ?_
    rintro e wx ⟨⟨bf, rfl, hf⟩, hq⟩
    have HAx := Lib.hid (HA5.out.mv hq)
    have HFx := Lib.hid hf
    clear hf hq
    go_wp2_with (refine wpList_store_row rfl 26 _ _ rfl (N + 1) (userC zeroU).toArray (by rfl) (by rfl) 26 _ HAx.out.z (infoUsrS _) rfl (userC_one _) ?_)
    have hz2 := HAx.out.z.row zeroU
    have hg2 : GX [N + 1] wx (wx.setRow (N + 1) (userC zeroU).toArray) := (GX.refl _ wx).setRow (by simp) _
    have hq2 : Q w (wx.setRow (N + 1) (userC zeroU).toArray) := hg2.toQ HAx.out.q (fun k hk => by have := HAx.out.lo; simp at hk; omega)
    have hf2 : FaultAt (wx.setRow (N + 1) (userC zeroU).toArray) bf 71 0 := fault_gx HFx.out hg2 (by intro e; exact fault_neU HFx.out HAx.out.z (by simpa using e))
    generalize wx.setRow (N + 1) (userC zeroU).toArray = W9 at hz2 hq2 hf2 ⊢
    clear hg2
    have HZ9 := Lib.hid hz2
    have HQ9 := Lib.hid hq2
    have HF9 := Lib.hid hf2
    clear hz2 hq2 hf2 HFx HAx
    go_wp2_with fail
    refine bodyPost_ret (v := .tuple #[.agg (userC zeroU).toArray, .iface 101 (.pointer (some ⟨bf, 0, none⟩))]) ?_ rfl (by unfold ChkPost; rw [HNo.out]; exact ⟨.inr ⟨rfl, bf, rfl, HF9.out⟩, HQ9.out⟩)
    exact results_cell_row2 rfl _ _ (N + 1) 26 _ (0, 0) _ _ (by rfl) (by rfl) HZ9.out Tryz.underlying26 rfl (infoUsrS _)
  have gm : (((MN : Nat) : Int) == 0) = false := by
    simp only [beq_eq_false_iff_ne, ne_eq]; omega
  have HM0 := Lib.hid hm0
  clear hm0
  rcases FA with _ | auth
  · have HNo : Hid (q = (zeroU, 72)) := Lib.hid (by rw [← HQ.out]; unfold checkQ; rw [if_pos HT.out, if_neg (fun h => HM0.out (HMN.out.symm.trans h))]; simp only [HFA.out])
    simp only [Option.getD_none, Option.isSome_none] at HFa
    go_enter Tryz.func35, Tryz.ntmps35
    go_wp2_with fail
    refine (HS0.out _ HA.out.q).mono ?_
    rintro e w4 ⟨rfl, hq4⟩
    have HA4 := Lib.hid (HA.out.mv hq4)
    obtain ⟨b0, b1, b2, b3, b4, b5⟩ := HA4.out.b.c
    clear hq4 e1 e2 hN hN1
    go_wp2_with fail
    refine (HMa.out _ HA4.out.q).mono ?_
    rintro e w5 ⟨rfl, hq5⟩
    have HA5 := Lib.hid (HA4.out.mv hq5)
    clear hq5 b0 b1 b2 b3 b4 b5
    obtain ⟨b0, b1, b2, b3, b4, b5⟩ := HA5.out.b.c
    go_wp2_with fail
    refine (HFa.out _ HA5.out.q).mono ?_
    rintro e w6 ⟨rfl, hq6⟩
    have HA6 := Lib.hid (HA5.out.mv hq6)
    clear hq6 b0 b1 b2 b3 b4 b5
    go_wp2_with fail
    refine (stop_any 72 _).mono ?_
    rintro e wx ⟨⟨bf, rfl, hf⟩, hq⟩
    have HAx := Lib.hid (HA6.out.mv hq)
    have HFx := Lib.hid hf
    clear hf hq
    go_wp2_with (refine wpList_store_row rfl 26 _ _ rfl (N + 1) (userC zeroU).toArray (by rfl) (by rfl) 26 _ HAx.out.z (infoUsrS _) rfl (userC_one _) ?_)
    have hz2 := HAx.out.z.row zeroU
    have hg2 : GX [N + 1] wx (wx.setRow (N + 1) (userC zeroU).toArray) := (GX.refl _ wx).setRow (by simp) _
    have hq2 : Q w (wx.setRow (N + 1) (userC zeroU).toArray) := hg2.toQ HAx.out.q (fun k hk => by have := HAx.out.lo; simp at hk; omega)
    have hf2 : FaultAt (wx.setRow (N + 1) (userC zeroU).toArray) bf 72 0 := fault_gx HFx.out hg2 (by intro e; exact fault_neU HFx.out HAx.out.z (by simpa using e))
    generalize wx.setRow (N + 1) (userC zeroU).toArray = W9 at hz2 hq2 hf2 ⊢
    clear hg2
    have HZ9 := Lib.hid hz2
    have HQ9 := Lib.hid hq2
    have HF9 := Lib.hid hf2
    clear hz2 hq2 hf2 HFx HAx
    go_wp2_with fail
    refine bodyPost_ret (v := .tuple #[.agg (userC zeroU).toArray, .iface 101 (.pointer (some ⟨bf, 0, none⟩))]) ?_ rfl (by unfold ChkPost; rw [HNo.out]; exact ⟨.inr ⟨rfl, bf, rfl, HF9.out⟩, HQ9.out⟩)
    exact results_cell_row2 rfl _ _ (N + 1) 26 _ (0, 0) _ _ (by rfl) (by rfl) HZ9.out Tryz.underlying26 rfl (infoUsrS _)
  have hal := hAl auth rfl
  simp only [Option.getD_some, Option.isSome_some] at HFa
  obtain ⟨RQ, hRQ⟩ : ∃ x, readQ auth = x := ⟨_, rfl⟩
  have HRd : Hid (∀ W, Q w W → Calls Tryz.prog 78 #[.string ⟨auth.toArray⟩] W (ReadPost17 RQ W)) := Lib.hid (fun W hq => by rw [← hRQ]; exact read_any auth W (by omega) (HS.out.q hq).u)
  have HRQ := Lib.hid hRQ
  have hsm : ∀ x, RQ = some x → sumU x.names ≤ 1055001 ∧ x.names.length ≤ 1055001 := fun x h => by have := read_small (hRQ.trans h); omega
  clear hAl hRQ
  unfold ReadPost17 at HRd
  go_enter Tryz.func35, Tryz.ntmps35
  go_wp2_with fail
  refine (HS0.out _ HA.out.q).mono ?_
  rintro e w4 ⟨rfl, hq4⟩
  have HA4 := Lib.hid (HA.out.mv hq4)
  obtain ⟨b0, b1, b2, b3, b4, b5⟩ := HA4.out.b.c
  clear hq4 e1 e2 hN hN1
  go_wp2_with fail
  refine (HMa.out _ HA4.out.q).mono ?_
  rintro e w5 ⟨rfl, hq5⟩
  have HA5 := Lib.hid (HA4.out.mv hq5)
  clear hq5 b0 b1 b2 b3 b4 b5
  obtain ⟨b0, b1, b2, b3, b4, b5⟩ := HA5.out.b.c
  go_wp2_with fail
  refine (HFa.out _ HA5.out.q).mono ?_
  rintro e w6 ⟨rfl, hq6⟩
  have HA6 := Lib.hid (HA5.out.mv hq6)
  clear hq6 b0 b1 b2 b3 b4 b5 HMa HFa HS0 HA HA4 HA5 gm
  go_wp2_with fail
  refine (HRd.out _ HA6.out.q).mono ?_
  clear HRd
  rcases RQ with _ | x
  · rintro e w7 ⟨⟨bf, rfl, hf⟩, hq7⟩
    have HNo : Hid (q = (zeroU, 72)) := Lib.hid (by rw [← HQ.out]; unfold checkQ; rw [if_pos HT.out, if_neg (fun h => HM0.out (HMN.out.symm.trans h))]; simp only [HFA.out, HRQ.out])
    have HA7 := Lib.hid (HA6.out.mv hq7)
    have HF7 := Lib.hid hf
    clear hf hq7
    obtain ⟨M, W1, W2, hM, hW1, hl1, hW2, hl2, hq2⟩ := clm_boxes w7 zeroC (.slice none 0 0)
    have HAx := Lib.hid (HA7.out.mv hq2)
    have HFx : Hid (FaultAt W2 bf 72 0) := Lib.hid (hq2.block HF7.out)
    clear hq2 hl2
    have hW1b : w7.alloc (.cells #[.string ⟨#[]⟩, .string ⟨#[]⟩, .string ⟨#[]⟩, .string ⟨#[]⟩, .slice none 0 0] 113) = W1 := hW1
    go_upto_region 10 with (refine wpList_store_row rfl 113 _ _ rfl M (claimV zeroC (.slice none 0 0)).toArray (by rfl) (by rfl) 113 _ hl1 (infoClm _ _) rfl (claimV_one _ _ _ _) ?_)
    try rw [hW2]
    clear hM hW1 hW2 hW1b hl1
    have HAx := Lib.hid HAx.out
    go_wp2_with (refine wpList_store_row rfl 26 _ _ rfl (N + 1) (userC zeroU).toArray (by rfl) (by rfl) 26 _ HAx.out.z (infoUsrS _) rfl (userC_one _) ?_)
    have hz2 := HAx.out.z.row zeroU
    have hg2 : GX [N + 1] W2 (W2.setRow (N + 1) (userC zeroU).toArray) := (GX.refl _ W2).setRow (by simp) _
    have hq2 : Q w (W2.setRow (N + 1) (userC zeroU).toArray) := hg2.toQ HAx.out.q (fun k hk => by have := HAx.out.lo; simp at hk; omega)
    have hf2 : FaultAt (W2.setRow (N + 1) (userC zeroU).toArray) bf 72 0 := fault_gx HFx.out hg2 (by intro e; exact fault_neU HFx.out HAx.out.z (by simpa using e))
    generalize W2.setRow (N + 1) (userC zeroU).toArray = W9 at hz2 hq2 hf2 ⊢
    clear hg2
    have HZ9 := Lib.hid hz2
    have HQ9 := Lib.hid hq2
    have HF9 := Lib.hid hf2
    clear hz2 hq2 hf2 HFx HAx
    go_wp2_with fail
    refine bodyPost_ret (v := .tuple #[.agg (userC zeroU).toArray, .iface 101 (.pointer (some ⟨bf, 0, none⟩))]) ?_ rfl (by unfold ChkPost; rw [HNo.out]; exact ⟨.inr ⟨rfl, bf, rfl, HF9.out⟩, HQ9.out⟩)
    exact results_cell_row2 rfl _ _ (N + 1) 26 _ (0, 0) _ _ (by rfl) (by rfl) HZ9.out Tryz.underlying26 rfl (infoUsrS _)
  obtain ⟨hsm1, hsm2⟩ := hsm x rfl
  clear hsm
  rintro e w7 ⟨⟨NA, rfl, hnm⟩, hq7⟩
  have HA7 := Lib.hid (HA6.out.mv hq7)
  obtain ⟨M, W1, W2, hM, hW1, hl1, hW2, hl2, hq2⟩ := clm_boxes w7 x (.slice NA x.names.length x.names.length)
  have HA8 := Lib.hid (HA7.out.mv hq2)
  have HL8 := Lib.hid hl2
  have HN8 := Lib.hid (hnm.q hq2)
  clear hq2 hl2 hnm hq7
  have hW1b : w7.alloc (.cells #[.string ⟨#[]⟩, .string ⟨#[]⟩, .string ⟨#[]⟩, .string ⟨#[]⟩, .slice none 0 0] 113) = W1 := hW1
  obtain ⟨NL, hNL⟩ : ∃ x', x.names.length = x' := ⟨_, rfl⟩
  rw [hNL] at HN8 HL8 hsm2 hW2 ⊢
  go_upto_region 10 with (refine wpList_store_row rfl 113 _ _ rfl M (claimV x (.slice NA NL NL)).toArray (by rfl) (by rfl) 113 _ hl1 (infoClm _ _) rfl (claimV_one _ _ _ _) ?_)
  try rw [hW2]
  clear hM hW1 hW2 hW1b hl1 HA7
  obtain ⟨xi, xd, xr, xs, xn⟩ := x
  simp only at hsm1 hsm2 HN8 hNL HL8
  obtain ⟨CQ, hCQ⟩ : ∃ x', canonQ ⟨m, tg, minor, fs, body, close⟩ xn = x' := ⟨_, rfl⟩
  have HCc : Hid (∀ W, Q w W → NmAt W NA NL xn → Calls Tryz.prog 30 #[.agg (reqC ⟨m, tg, minor, fs, body, close⟩ A n c).toArray, .slice NA NL NL] W (CanPost CQ W)) := Lib.hid (fun W hq hn => by
    have := HCn.out NA NL xn W hq hn (by omega) (by omega)
    rw [hCQ] at this; exact this)
  have HCL2 : Hid (∀ cq, CQ = some cq → cq.length ≤ 140737488355328) := Lib.hid (fun cq h => HCL.out xn cq (by omega) (by omega) (hCQ.trans h))
  have HCQ := Lib.hid hCQ
  obtain ⟨FD, hFD⟩ : ∃ x', fieldL fs datedL = x' := ⟨_, rfl⟩
  obtain ⟨STV, hSTV⟩ : ∃ x', FD.getD [] = x' := ⟨_, rfl⟩
  have hstl : STV.length ≤ 1055000 := by
    rw [← hSTV]
    rcases FD with _ | v
    · simp
    · exact HFL.out datedL v hFD
  obtain ⟨FDB, hFDB⟩ : ∃ x', FD.isSome = x' := ⟨_, rfl⟩
  have HFd2 : Hid (∀ W, Q w W → Calls Tryz.prog 71 #[.slice A n c, .string ⟨#[120, 45, 97, 109, 122, 45, 100, 97, 116, 101]⟩] W fun e w' => e = .returned (.tuple #[.string ⟨STV.toArray⟩, .bool FDB]) ∧ Q W w') := Lib.hid (fun W hq => by
    have := HFd.out datedL W (by decide) hq
    rw [hFD, hSTV, hFDB] at this; exact this)
  obtain ⟨TT, hTT⟩ : ∃ x', stT STV = x' := ⟨_, rfl⟩
  obtain ⟨TE, hTE⟩ : ∃ x', stE STV = x' := ⟨_, rfl⟩
  have HRs : Hid (∀ W, Q w W → Calls Tryz.prog 79 #[.string ⟨STV.toArray⟩] W fun e w' => e = .returned (.tuple #[.int .i64 TT, .int .i64 TE]) ∧ Q W w') := Lib.hid (fun W hq => by
    have := ReadStampQ STV W (HS.out.q hq).tab (by omega)
    rw [hTT, hTE] at this; exact this)
  have HFDD : Hid (fieldL fs datedL = FD ∧ FD.getD [] = STV ∧ FD.isSome = FDB ∧ stT STV = TT ∧ stE STV = TE) := Lib.hid ⟨hFD, hSTV, hFDB, hTT, hTE⟩
  obtain ⟨HB1, hHB1⟩ : ∃ x', decide (hostL ∈ xn) = x' := ⟨_, rfl⟩
  obtain ⟨HB2, hHB2⟩ : ∃ x', decide (datedL ∈ xn) = x' := ⟨_, rfl⟩
  have HH1 : Hid (∀ W, NmAt W NA NL xn → Calls Tryz.prog 80 #[.slice NA NL NL, .string ⟨#[104, 111, 115, 116]⟩] W fun e w' => e = .returned (.bool HB1) ∧ Q W w') := Lib.hid (fun W hn => by
    have := has_any NA NL NL xn hostL W hn (by omega)
    rw [hHB1] at this; exact this)
  have HH2 : Hid (∀ W, NmAt W NA NL xn → Calls Tryz.prog 80 #[.slice NA NL NL, .string ⟨#[120, 45, 97, 109, 122, 45, 100, 97, 116, 101]⟩] W fun e w' => e = .returned (.bool HB2) ∧ Q W w') := Lib.hid (fun W hn => by
    have := has_any NA NL NL xn datedL W hn (by omega)
    rw [hHB2] at this; exact this)
  have HHB : Hid (decide (hostL ∈ xn) = HB1 ∧ decide (datedL ∈ xn) = HB2) := Lib.hid ⟨hHB1, hHB2⟩
  have HCK : Hid (∀ X, claimQ ⟨m, tg, minor, fs, body, close⟩ us now rg ⟨xi, xd, xr, xs, xn⟩ = X → q = X) := Lib.hid (fun X h => by
    rw [← HQ.out]; unfold checkQ
    rw [if_pos HT.out, if_neg (fun h => HM0.out (HMN.out.symm.trans h))]; simp only [HFA.out, HRQ.out]; exact h)
  unfold CanPost reqC at HCc
  clear hCQ hFD hSTV hFDB hTT hTE hHB1 hHB2 hsm1 hsm2 hal hmle hNL HQ HMN HM0 HFA HRQ HCn
  obtain ⟨b0, b1, b2, b3, b4, b5⟩ := HA8.out.b.c
  have x4 := HL8.out.c.2.2.2.2
  simp only at b0 b1 b2 b4 b5
  go_wp2_with fail
  refine (HCc.out _ HA8.out.q HN8.out).mono ?_
  clear b0 b1 b2 b3 b4 b5 x4 HCc
  rcases CQ with _ | cq
  · rintro e v1 ⟨⟨bf, rfl, hf0⟩, hqv1⟩
    have HNo : Hid (q = (zeroU, 72)) := Lib.hid (HCK.out _ (by unfold claimQ; simp only [HCQ.out]))
    have HA1 := Lib.hid (HA8.out.mv hqv1)
    have HL1 := Lib.hid (HL8.out.q hqv1)
    have HN1 := Lib.hid (HN8.out.q hqv1)
    clear hqv1
    obtain ⟨b0, b1, b2, b3, b4, b5⟩ := HA1.out.b.c
    go_wp2_with fail
    refine (HFd2.out _ HA1.out.q).mono ?_
    rintro e v2 ⟨rfl, hqv2⟩
    have HA2 := Lib.hid (HA1.out.mv hqv2)
    have HL2 := Lib.hid (HL1.out.q hqv2)
    have HN2 := Lib.hid (HN1.out.q hqv2)
    clear hqv2 b0 b1 b2 b3 b4 b5 HA1 HL1 HN1
    go_wp2_with fail
    refine (HRs.out _ HA2.out.q).mono ?_
    rintro e v3 ⟨rfl, hqv3⟩
    have HA3 := Lib.hid (HA2.out.mv hqv3)
    have HLb := Lib.hid (HL2.out.q hqv3)
    have HNb := Lib.hid (HN2.out.q hqv3)
    clear hqv3 HA2 HL2 HN2 HRs HFd2
    go_upto_region 15 with (fail)
    refine wp_region_q (by kernel_rfl) (by kernel_rfl) ?_
    (repeat (go_big_quiet_step (first | (go_at_call 80; exact calls_q (HH1.out _ (HNb.out.q (QW.le _)))) | (go_at_call 80; exact calls_q (HH2.out _ (HNb.out.q (QW.le _)))))))
    refine wpQuiet_nil ?_
    rintro wr ⟨mr, hmr⟩
    have hqr : Q v3 wr := by rw [hmr]; exact mr.le
    have HAr := Lib.hid (HA3.out.mv hqr)
    clear mr hmr HA3
    go_wp2_with fail
    refine (stop_any 72 _).mono ?_
    rintro e wx ⟨⟨bf, rfl, hf⟩, hq⟩
    have HAx := Lib.hid (HAr.out.mv hq)
    have HFx := Lib.hid hf
    clear hf hq hqr
    go_wp2_with (refine wpList_store_row rfl 26 _ _ rfl (N + 1) (userC zeroU).toArray (by rfl) (by rfl) 26 _ HAx.out.z (infoUsrS _) rfl (userC_one _) ?_)
    have hz2 := HAx.out.z.row zeroU
    have hg2 : GX [N + 1] wx (wx.setRow (N + 1) (userC zeroU).toArray) := (GX.refl _ wx).setRow (by simp) _
    have hq2 : Q w (wx.setRow (N + 1) (userC zeroU).toArray) := hg2.toQ HAx.out.q (fun k hk => by have := HAx.out.lo; simp at hk; omega)
    have hf2 : FaultAt (wx.setRow (N + 1) (userC zeroU).toArray) bf 72 0 := fault_gx HFx.out hg2 (by intro e; exact fault_neU HFx.out HAx.out.z (by simpa using e))
    generalize wx.setRow (N + 1) (userC zeroU).toArray = W9 at hz2 hq2 hf2 ⊢
    clear hg2
    have HZ9 := Lib.hid hz2
    have HQ9 := Lib.hid hq2
    have HF9 := Lib.hid hf2
    clear hz2 hq2 hf2 HFx HAx
    go_wp2_with fail
    refine bodyPost_ret (v := .tuple #[.agg (userC zeroU).toArray, .iface 101 (.pointer (some ⟨bf, 0, none⟩))]) ?_ rfl (by unfold ChkPost; rw [HNo.out]; exact ⟨.inr ⟨rfl, bf, rfl, HF9.out⟩, HQ9.out⟩)
    exact results_cell_row2 rfl _ _ (N + 1) 26 _ (0, 0) _ _ (by rfl) (by rfl) HZ9.out Tryz.underlying26 rfl (infoUsrS _)
  rintro e v1 ⟨rfl, hqv1⟩
  have hcql := HCL2.out cq rfl
  clear HCL2
  have HA1 := Lib.hid (HA8.out.mv hqv1)
  have HL1 := Lib.hid (HL8.out.q hqv1)
  have HN1 := Lib.hid (HN8.out.q hqv1)
  clear hqv1
  obtain ⟨b0, b1, b2, b3, b4, b5⟩ := HA1.out.b.c
  go_wp2_with fail
  refine (HFd2.out _ HA1.out.q).mono ?_
  rintro e v2 ⟨rfl, hqv2⟩
  have HA2 := Lib.hid (HA1.out.mv hqv2)
  have HL2 := Lib.hid (HL1.out.q hqv2)
  have HN2 := Lib.hid (HN1.out.q hqv2)
  clear hqv2 b0 b1 b2 b3 b4 b5 HA1 HL1 HN1
  go_wp2_with fail
  refine (HRs.out _ HA2.out.q).mono ?_
  rintro e v3 ⟨rfl, hqv3⟩
  have HA3 := Lib.hid (HA2.out.mv hqv3)
  have HLb := Lib.hid (HL2.out.q hqv3)
  have HNb := Lib.hid (HN2.out.q hqv3)
  clear hqv3 HA2 HL2 HN2 HRs HFd2
  have x1 : ∀ mm : QW v3, mm.val.cell? ⟨M, 1, none⟩ = some (.string ⟨xd.toArray⟩) := fun mm => mm.cell HLb.out.c.2.1
  have x2 : ∀ mm : QW v3, mm.val.cell? ⟨M, 2, none⟩ = some (.string ⟨xr.toArray⟩) := fun mm => mm.cell HLb.out.c.2.2.1
  have x4 : ∀ mm : QW v3, mm.val.cell? ⟨M, 4, none⟩ = some (.slice NA NL NL) := fun mm => mm.cell HLb.out.c.2.2.2.2
  rcases FDB with _ | _
  · have HNo : Hid (q = (zeroU, 72)) := Lib.hid (HCK.out _ (by
      have h1 := HFDD.out.1; have h2 := HFDD.out.2.2.1
      rcases FD with _ | v
      · unfold claimQ; simp only [HCQ.out, h1]
      · cases h2))
    go_upto_region 15 with (fail)
    refine wp_region_q (by kernel_rfl) (by kernel_rfl) ?_
    (repeat (go_big_quiet_step (first | (go_at_call 80; exact calls_q (HH1.out _ (HNb.out.q (QW.le _)))) | (go_at_call 80; exact calls_q (HH2.out _ (HNb.out.q (QW.le _)))))))
    refine wpQuiet_nil ?_
    rintro wr ⟨mr, hmr⟩
    have hqr : Q v3 wr := by rw [hmr]; exact mr.le
    have HAr := Lib.hid (HA3.out.mv hqr)
    clear mr hmr HA3
    go_wp2_with fail
    refine (stop_any 72 _).mono ?_
    rintro e wx ⟨⟨bf, rfl, hf⟩, hq⟩
    have HAx := Lib.hid (HAr.out.mv hq)
    have HFx := Lib.hid hf
    clear hf hq hqr
    go_wp2_with (refine wpList_store_row rfl 26 _ _ rfl (N + 1) (userC zeroU).toArray (by rfl) (by rfl) 26 _ HAx.out.z (infoUsrS _) rfl (userC_one _) ?_)
    have hz2 := HAx.out.z.row zeroU
    have hg2 : GX [N + 1] wx (wx.setRow (N + 1) (userC zeroU).toArray) := (GX.refl _ wx).setRow (by simp) _
    have hq2 : Q w (wx.setRow (N + 1) (userC zeroU).toArray) := hg2.toQ HAx.out.q (fun k hk => by have := HAx.out.lo; simp at hk; omega)
    have hf2 : FaultAt (wx.setRow (N + 1) (userC zeroU).toArray) bf 72 0 := fault_gx HFx.out hg2 (by intro e; exact fault_neU HFx.out HAx.out.z (by simpa using e))
    generalize wx.setRow (N + 1) (userC zeroU).toArray = W9 at hz2 hq2 hf2 ⊢
    clear hg2
    have HZ9 := Lib.hid hz2
    have HQ9 := Lib.hid hq2
    have HF9 := Lib.hid hf2
    clear hz2 hq2 hf2 HFx HAx
    go_wp2_with fail
    refine bodyPost_ret (v := .tuple #[.agg (userC zeroU).toArray, .iface 101 (.pointer (some ⟨bf, 0, none⟩))]) ?_ rfl (by unfold ChkPost; rw [HNo.out]; exact ⟨.inr ⟨rfl, bf, rfl, HF9.out⟩, HQ9.out⟩)
    exact results_cell_row2 rfl _ _ (N + 1) 26 _ (0, 0) _ _ (by rfl) (by rfl) HZ9.out Tryz.underlying26 rfl (infoUsrS _)
  obtain ⟨stv, hfd⟩ : ∃ v, FD = some v := Option.isSome_iff_exists.1 HFDD.out.2.2.1
  have hsv : stv = STV := by have := HFDD.out.2.1; rw [hfd] at this; exact this
  rw [hsv] at hfd
  have HFS : Hid (fieldL fs datedL = some STV) := Lib.hid (HFDD.out.1.trans hfd)
  have hQ : stampQ STV = if TE = 0 then some TT else none := by
    have h1 := HFDD.out.2.2.2.1; have h2 := HFDD.out.2.2.2.2
    unfold stT at h1; unfold stE at h2
    rcases hz : stampQ STV with _ | t
    · rw [hz] at h2; simp only at h2; rw [if_neg (by omega)]
    · rw [hz] at h1 h2; simp only at h1 h2; rw [if_pos h2.symm, ← h1]; rfl
  have HSQ := Lib.hid hQ
  clear hQ hfd hsv HFDD
  by_cases hTE : TE = 0
  rotate_left
  · have HNo : Hid (q = (zeroU, 72)) := Lib.hid (HCK.out _ (by have := HSQ.out; rw [if_neg hTE] at this; unfold claimQ; simp only [HCQ.out, HFS.out, this]))
    have g3 : (TE == 0) = false := by rw [beq_eq_false_iff_ne]; exact hTE
    have g3' : (TE != 0) = true := by rw [bne_iff_ne]; exact hTE
    clear hTE
    go_upto_region 15 with (fail)
    refine wp_region_q (by kernel_rfl) (by kernel_rfl) ?_
    (repeat (go_big_quiet_step (first | (go_at_call 80; exact calls_q (HH1.out _ (HNb.out.q (QW.le _)))) | (go_at_call 80; exact calls_q (HH2.out _ (HNb.out.q (QW.le _)))))))
    refine wpQuiet_nil ?_
    rintro wr ⟨mr, hmr⟩
    have hqr : Q v3 wr := by rw [hmr]; exact mr.le
    have HAr := Lib.hid (HA3.out.mv hqr)
    clear mr hmr HA3
    go_wp2_with fail
    refine (stop_any 72 _).mono ?_
    rintro e wx ⟨⟨bf, rfl, hf⟩, hq⟩
    have HAx := Lib.hid (HAr.out.mv hq)
    have HFx := Lib.hid hf
    clear hf hq hqr
    go_wp2_with (refine wpList_store_row rfl 26 _ _ rfl (N + 1) (userC zeroU).toArray (by rfl) (by rfl) 26 _ HAx.out.z (infoUsrS _) rfl (userC_one _) ?_)
    have hz2 := HAx.out.z.row zeroU
    have hg2 : GX [N + 1] wx (wx.setRow (N + 1) (userC zeroU).toArray) := (GX.refl _ wx).setRow (by simp) _
    have hq2 : Q w (wx.setRow (N + 1) (userC zeroU).toArray) := hg2.toQ HAx.out.q (fun k hk => by have := HAx.out.lo; simp at hk; omega)
    have hf2 : FaultAt (wx.setRow (N + 1) (userC zeroU).toArray) bf 72 0 := fault_gx HFx.out hg2 (by intro e; exact fault_neU HFx.out HAx.out.z (by simpa using e))
    generalize wx.setRow (N + 1) (userC zeroU).toArray = W9 at hz2 hq2 hf2 ⊢
    clear hg2
    have HZ9 := Lib.hid hz2
    have HQ9 := Lib.hid hq2
    have HF9 := Lib.hid hf2
    clear hz2 hq2 hf2 HFx HAx
    go_wp2_with fail
    refine bodyPost_ret (v := .tuple #[.agg (userC zeroU).toArray, .iface 101 (.pointer (some ⟨bf, 0, none⟩))]) ?_ rfl (by unfold ChkPost; rw [HNo.out]; exact ⟨.inr ⟨rfl, bf, rfl, HF9.out⟩, HQ9.out⟩)
    exact results_cell_row2 rfl _ _ (N + 1) 26 _ (0, 0) _ _ (by rfl) (by rfl) HZ9.out Tryz.underlying26 rfl (infoUsrS _)
  have hst := HSQ.out
  rw [if_pos hTE] at hst
  obtain ⟨⟨tt0, tt1⟩, htt⟩ := stampQ_of hst
  have hst16 : STV.length = 16 := by rw [← htt]; rfl
  have HST := Lib.hid hst
  have g3 : (TE == 0) = true := by rw [hTE]; rfl
  have g3' : (TE != 0) = false := by rw [hTE]; rfl
  have hst8 : (8 : Int) ≤ (STV.length : Int) := by omega
  have hsub8 : sub STV 0 8 = STV.take 8 := sub_zero0 _ _
  clear hst htt hTE HSQ
  have HCM : Hid (¬ fitQ rg ⟨xi, xd, xr, xs, xn⟩ STV → q = (zeroU, 72)) := Lib.hid (fun h => HCK.out _ (by unfold claimQ; simp only [HCQ.out, HFS.out, HST.out]; rw [if_neg h]))
  by_cases hrg : xr = rg
  rotate_left
  · have HNo : Hid (q = (zeroU, 72)) := Lib.hid (HCM.out (fun h => hrg h.1))
    have g4 : (xr == rg) = false := by simpa using hrg
    clear hrg
    go_upto_region 15 with (fail)
    refine wp_region_q (by kernel_rfl) (by kernel_rfl) ?_
    (repeat (go_big_quiet_step (first | (go_at_call 80; exact calls_q (HH1.out _ (HNb.out.q (QW.le _)))) | (go_at_call 80; exact calls_q (HH2.out _ (HNb.out.q (QW.le _)))))))
    refine wpQuiet_nil ?_
    rintro wr ⟨mr, hmr⟩
    have hqr : Q v3 wr := by rw [hmr]; exact mr.le
    have HAr := Lib.hid (HA3.out.mv hqr)
    clear mr hmr HA3
    go_wp2_with fail
    refine (stop_any 72 _).mono ?_
    rintro e wx ⟨⟨bf, rfl, hf⟩, hq⟩
    have HAx := Lib.hid (HAr.out.mv hq)
    have HFx := Lib.hid hf
    clear hf hq hqr
    go_wp2_with (refine wpList_store_row rfl 26 _ _ rfl (N + 1) (userC zeroU).toArray (by rfl) (by rfl) 26 _ HAx.out.z (infoUsrS _) rfl (userC_one _) ?_)
    have hz2 := HAx.out.z.row zeroU
    have hg2 : GX [N + 1] wx (wx.setRow (N + 1) (userC zeroU).toArray) := (GX.refl _ wx).setRow (by simp) _
    have hq2 : Q w (wx.setRow (N + 1) (userC zeroU).toArray) := hg2.toQ HAx.out.q (fun k hk => by have := HAx.out.lo; simp at hk; omega)
    have hf2 : FaultAt (wx.setRow (N + 1) (userC zeroU).toArray) bf 72 0 := fault_gx HFx.out hg2 (by intro e; exact fault_neU HFx.out HAx.out.z (by simpa using e))
    generalize wx.setRow (N + 1) (userC zeroU).toArray = W9 at hz2 hq2 hf2 ⊢
    clear hg2
    have HZ9 := Lib.hid hz2
    have HQ9 := Lib.hid hq2
    have HF9 := Lib.hid hf2
    clear hz2 hq2 hf2 HFx HAx
    go_wp2_with fail
    refine bodyPost_ret (v := .tuple #[.agg (userC zeroU).toArray, .iface 101 (.pointer (some ⟨bf, 0, none⟩))]) ?_ rfl (by unfold ChkPost; rw [HNo.out]; exact ⟨.inr ⟨rfl, bf, rfl, HF9.out⟩, HQ9.out⟩)
    exact results_cell_row2 rfl _ _ (N + 1) 26 _ (0, 0) _ _ (by rfl) (by rfl) HZ9.out Tryz.underlying26 rfl (infoUsrS _)
  have g4 : (xr == rg) = true := by simpa using hrg
  have HRG := Lib.hid hrg
  clear hrg
  rcases HB1 with _ | _
  · have HNo : Hid (q = (zeroU, 72)) := Lib.hid (HCM.out (fun h => of_decide_eq_false HHB.out.1 h.2.1))
    go_upto_region 15 with (fail)
    refine wp_region_q (by kernel_rfl) (by kernel_rfl) ?_
    (repeat (go_big_quiet_step (first | (go_at_call 80; exact calls_q (HH1.out _ (HNb.out.q (QW.le _)))) | (go_at_call 80; exact calls_q (HH2.out _ (HNb.out.q (QW.le _)))))))
    refine wpQuiet_nil ?_
    rintro wr ⟨mr, hmr⟩
    have hqr : Q v3 wr := by rw [hmr]; exact mr.le
    have HAr := Lib.hid (HA3.out.mv hqr)
    clear mr hmr HA3
    go_wp2_with fail
    refine (stop_any 72 _).mono ?_
    rintro e wx ⟨⟨bf, rfl, hf⟩, hq⟩
    have HAx := Lib.hid (HAr.out.mv hq)
    have HFx := Lib.hid hf
    clear hf hq hqr
    go_wp2_with (refine wpList_store_row rfl 26 _ _ rfl (N + 1) (userC zeroU).toArray (by rfl) (by rfl) 26 _ HAx.out.z (infoUsrS _) rfl (userC_one _) ?_)
    have hz2 := HAx.out.z.row zeroU
    have hg2 : GX [N + 1] wx (wx.setRow (N + 1) (userC zeroU).toArray) := (GX.refl _ wx).setRow (by simp) _
    have hq2 : Q w (wx.setRow (N + 1) (userC zeroU).toArray) := hg2.toQ HAx.out.q (fun k hk => by have := HAx.out.lo; simp at hk; omega)
    have hf2 : FaultAt (wx.setRow (N + 1) (userC zeroU).toArray) bf 72 0 := fault_gx HFx.out hg2 (by intro e; exact fault_neU HFx.out HAx.out.z (by simpa using e))
    generalize wx.setRow (N + 1) (userC zeroU).toArray = W9 at hz2 hq2 hf2 ⊢
    clear hg2
    have HZ9 := Lib.hid hz2
    have HQ9 := Lib.hid hq2
    have HF9 := Lib.hid hf2
    clear hz2 hq2 hf2 HFx HAx
    go_wp2_with fail
    refine bodyPost_ret (v := .tuple #[.agg (userC zeroU).toArray, .iface 101 (.pointer (some ⟨bf, 0, none⟩))]) ?_ rfl (by unfold ChkPost; rw [HNo.out]; exact ⟨.inr ⟨rfl, bf, rfl, HF9.out⟩, HQ9.out⟩)
    exact results_cell_row2 rfl _ _ (N + 1) 26 _ (0, 0) _ _ (by rfl) (by rfl) HZ9.out Tryz.underlying26 rfl (infoUsrS _)
  rcases HB2 with _ | _
  · have HNo : Hid (q = (zeroU, 72)) := Lib.hid (HCM.out (fun h => of_decide_eq_false HHB.out.2 h.2.2.1))
    go_upto_region 15 with (fail)
    refine wp_region_q (by kernel_rfl) (by kernel_rfl) ?_
    (repeat (go_big_quiet_step (first | (go_at_call 80; exact calls_q (HH1.out _ (HNb.out.q (QW.le _)))) | (go_at_call 80; exact calls_q (HH2.out _ (HNb.out.q (QW.le _)))))))
    refine wpQuiet_nil ?_
    rintro wr ⟨mr, hmr⟩
    have hqr : Q v3 wr := by rw [hmr]; exact mr.le
    have HAr := Lib.hid (HA3.out.mv hqr)
    clear mr hmr HA3
    go_wp2_with fail
    refine (stop_any 72 _).mono ?_
    rintro e wx ⟨⟨bf, rfl, hf⟩, hq⟩
    have HAx := Lib.hid (HAr.out.mv hq)
    have HFx := Lib.hid hf
    clear hf hq hqr
    go_wp2_with (refine wpList_store_row rfl 26 _ _ rfl (N + 1) (userC zeroU).toArray (by rfl) (by rfl) 26 _ HAx.out.z (infoUsrS _) rfl (userC_one _) ?_)
    have hz2 := HAx.out.z.row zeroU
    have hg2 : GX [N + 1] wx (wx.setRow (N + 1) (userC zeroU).toArray) := (GX.refl _ wx).setRow (by simp) _
    have hq2 : Q w (wx.setRow (N + 1) (userC zeroU).toArray) := hg2.toQ HAx.out.q (fun k hk => by have := HAx.out.lo; simp at hk; omega)
    have hf2 : FaultAt (wx.setRow (N + 1) (userC zeroU).toArray) bf 72 0 := fault_gx HFx.out hg2 (by intro e; exact fault_neU HFx.out HAx.out.z (by simpa using e))
    generalize wx.setRow (N + 1) (userC zeroU).toArray = W9 at hz2 hq2 hf2 ⊢
    clear hg2
    have HZ9 := Lib.hid hz2
    have HQ9 := Lib.hid hq2
    have HF9 := Lib.hid hf2
    clear hz2 hq2 hf2 HFx HAx
    go_wp2_with fail
    refine bodyPost_ret (v := .tuple #[.agg (userC zeroU).toArray, .iface 101 (.pointer (some ⟨bf, 0, none⟩))]) ?_ rfl (by unfold ChkPost; rw [HNo.out]; exact ⟨.inr ⟨rfl, bf, rfl, HF9.out⟩, HQ9.out⟩)
    exact results_cell_row2 rfl _ _ (N + 1) 26 _ (0, 0) _ _ (by rfl) (by rfl) HZ9.out Tryz.underlying26 rfl (infoUsrS _)
  obtain ⟨S8, hS8⟩ : ∃ x', STV.take 8 = x' := ⟨_, rfl⟩
  rw [hS8] at hsub8
  by_cases hday : S8 = xd
  rotate_left
  · have HNo : Hid (q = (zeroU, 72)) := Lib.hid (HCM.out (fun h => hday (hS8.symm.trans h.2.2.2)))
    have g5 : (S8 == xd) = false := by simpa using hday
    clear hday hS8
    go_upto_region 15 with (fail)
    refine wp_region_q (by kernel_rfl) (by kernel_rfl) ?_
    (repeat (go_big_quiet_step (first | (go_at_call 80; exact calls_q (HH1.out _ (HNb.out.q (QW.le _)))) | (go_at_call 80; exact calls_q (HH2.out _ (HNb.out.q (QW.le _)))))))
    refine wpQuiet_nil ?_
    rintro wr ⟨mr, hmr⟩
    have hqr : Q v3 wr := by rw [hmr]; exact mr.le
    have HAr := Lib.hid (HA3.out.mv hqr)
    clear mr hmr HA3
    go_wp2_with fail
    refine (stop_any 72 _).mono ?_
    rintro e wx ⟨⟨bf, rfl, hf⟩, hq⟩
    have HAx := Lib.hid (HAr.out.mv hq)
    have HFx := Lib.hid hf
    clear hf hq hqr
    go_wp2_with (refine wpList_store_row rfl 26 _ _ rfl (N + 1) (userC zeroU).toArray (by rfl) (by rfl) 26 _ HAx.out.z (infoUsrS _) rfl (userC_one _) ?_)
    have hz2 := HAx.out.z.row zeroU
    have hg2 : GX [N + 1] wx (wx.setRow (N + 1) (userC zeroU).toArray) := (GX.refl _ wx).setRow (by simp) _
    have hq2 : Q w (wx.setRow (N + 1) (userC zeroU).toArray) := hg2.toQ HAx.out.q (fun k hk => by have := HAx.out.lo; simp at hk; omega)
    have hf2 : FaultAt (wx.setRow (N + 1) (userC zeroU).toArray) bf 72 0 := fault_gx HFx.out hg2 (by intro e; exact fault_neU HFx.out HAx.out.z (by simpa using e))
    generalize wx.setRow (N + 1) (userC zeroU).toArray = W9 at hz2 hq2 hf2 ⊢
    clear hg2
    have HZ9 := Lib.hid hz2
    have HQ9 := Lib.hid hq2
    have HF9 := Lib.hid hf2
    clear hz2 hq2 hf2 HFx HAx
    go_wp2_with fail
    refine bodyPost_ret (v := .tuple #[.agg (userC zeroU).toArray, .iface 101 (.pointer (some ⟨bf, 0, none⟩))]) ?_ rfl (by unfold ChkPost; rw [HNo.out]; exact ⟨.inr ⟨rfl, bf, rfl, HF9.out⟩, HQ9.out⟩)
    exact results_cell_row2 rfl _ _ (N + 1) 26 _ (0, 0) _ _ (by rfl) (by rfl) HZ9.out Tryz.underlying26 rfl (infoUsrS _)
  have g5 : (S8 == xd) = true := by simpa using hday
  have HFit : Hid (fitQ rg ⟨xi, xd, xr, xs, xn⟩ STV) := Lib.hid ⟨HRG.out, of_decide_eq_true HHB.out.1, of_decide_eq_true HHB.out.2, hS8.trans hday⟩
  clear hday hS8 HCM
  have HWh : Hid (∀ X, whoQ ⟨m, tg, minor, fs, body, close⟩ us now rg ⟨xi, xd, xr, xs, xn⟩ cq STV TT = X → q = X) := Lib.hid (fun X h => HCK.out _ (by unfold claimQ; simp only [HCQ.out, HFS.out, HST.out]; rw [if_pos HFit.out]; exact h))
  clear HCQ HFS HST HFit HCK
  go_upto_region 15 with (fail)
  refine wp_region_q (by kernel_rfl) (by kernel_rfl) ?_
  (repeat (go_big_quiet_step (first | (go_at_call 80; exact calls_q (HH1.out _ (HNb.out.q (QW.le _)))) | (go_at_call 80; exact calls_q (HH2.out _ (HNb.out.q (QW.le _)))))))
  refine wpQuiet_nil ?_
  rintro wr ⟨mr, hmr⟩
  have hqr : Q v3 wr := by rw [hmr]; exact mr.le
  have HAr := Lib.hid (HA3.out.mv hqr)
  clear mr hmr HA3
  clear x1 x2 x4 g3 g3' g4 g5 hst8 hsub8 HH1 HH2
  have HLr := Lib.hid (HLb.out.q hqr)
  clear hqr
  go_wp2_with fail
  refine (HIx.out M ⟨xi, xd, xr, xs, xn⟩ _ _ HAr.out.q HLr.out).mono ?_
  rintro e v4 ⟨rfl, hq4⟩
  have HA4 := Lib.hid (HAr.out.mv hq4)
  have HL4 := Lib.hid (HLr.out.q hq4)
  clear hq4
  rcases idxU_find xi us with ⟨hix, hfi⟩ | ⟨ku, hku, hix, hfi⟩
  · have HNo : Hid (q = (zeroU, 73)) := Lib.hid (HWh.out _ (by unfold whoQ; simp only; rw [hfi]))
    simp only
    rw [hix]
    clear hix hfi
    go_wp2_with fail
    refine (stop_any 73 _).mono ?_
    rintro e wx ⟨⟨bf, rfl, hf⟩, hq⟩
    have HAx := Lib.hid (HA4.out.mv hq)
    have HFx := Lib.hid hf
    clear hf hq
    go_wp2_with (refine wpList_store_row rfl 26 _ _ rfl (N + 1) (userC zeroU).toArray (by rfl) (by rfl) 26 _ HAx.out.z (infoUsrS _) rfl (userC_one _) ?_)
    have hz2 := HAx.out.z.row zeroU
    have hg2 : GX [N + 1] wx (wx.setRow (N + 1) (userC zeroU).toArray) := (GX.refl _ wx).setRow (by simp) _
    have hq2 : Q w (wx.setRow (N + 1) (userC zeroU).toArray) := hg2.toQ HAx.out.q (fun k hk => by have := HAx.out.lo; simp at hk; omega)
    have hf2 : FaultAt (wx.setRow (N + 1) (userC zeroU).toArray) bf 73 0 := fault_gx HFx.out hg2 (by intro e; exact fault_neU HFx.out HAx.out.z (by simpa using e))
    generalize wx.setRow (N + 1) (userC zeroU).toArray = W9 at hz2 hq2 hf2 ⊢
    clear hg2
    have HZ9 := Lib.hid hz2
    have HQ9 := Lib.hid hq2
    have HF9 := Lib.hid hf2
    clear hz2 hq2 hf2 HFx HAx
    go_wp2_with fail
    refine bodyPost_ret (v := .tuple #[.agg (userC zeroU).toArray, .iface 101 (.pointer (some ⟨bf, 0, none⟩))]) ?_ rfl (by unfold ChkPost; rw [HNo.out]; exact ⟨.inr ⟨rfl, bf, rfl, HF9.out⟩, HQ9.out⟩)
    exact results_cell_row2 rfl _ _ (N + 1) 26 _ (0, 0) _ _ (by rfl) (by rfl) HZ9.out Tryz.underlying26 rfl (infoUsrS _)
  simp only
  rw [hix]
  obtain ⟨g, off, hBad, ux0, ux1, ux2⟩ := (HU.out.q HA4.out.q).at (show ku < k by rw [HU.out.1]; exact hku)
  subst hBad
  have hkk : ku < k := by rw [HU.out.1]; exact hku
  have gk : decide (ku < k) = true := by simpa using hkk
  have hgu : gUs us ku = us[ku] := by simp [gUs, List.getD, hku]
  have hus := HUS.out (gUs us ku) (by rw [hgu]; exact List.getElem_mem hku)
  clear hgu
  have hWho : ∀ X, (if 900 < max (TT - now) (now - TT) then (zeroU, 75) else if sigL (gUs us ku).sec STV rg cq ≠ xs then (zeroU, 74) else if (fieldL fs bodySumL).getD [] ≠ unsignedL ∧ (fieldL fs bodySumL).getD [] ≠ hexL (sha body) then (zeroU, 76) else (gUs us ku, 0)) = X → q = X := fun X h => HWh.out _ (by unfold whoQ; simp only; rw [hfi]; exact h)
  obtain ⟨⟨un, ui, uc⟩, hUe⟩ : ∃ u, gUs us ku = u := ⟨_, rfl⟩
  rw [hUe] at ux0 ux1 ux2 hus hWho
  simp only at ux0 ux1 ux2 hus hWho
  have HWo := Lib.hid hWho
  clear hWho hUe hix hfi HWh hku
  obtain ⟨MU, W3, W4, hMU, hW3, hl3, hW4, hl4, hq4⟩ := usr_boxes v4 ⟨un, ui, uc⟩
  have HA5 := Lib.hid (HA4.out.mv hq4)
  have HL5 := Lib.hid (HL4.out.q hq4)
  have HU5 := Lib.hid hl4
  clear hq4 hl4
  have hW3b : v4.alloc (.cells #[.string ⟨#[]⟩, .string ⟨#[]⟩, .string ⟨#[]⟩] 26) = W3 := hW3
  go_upto_region 21 with (refine wpList_store_row rfl 26 _ _ rfl MU (userC ⟨un, ui, uc⟩).toArray (by rfl) (by rfl) 26 _ hl3 (infoUsrS _) rfl (userC_one _) ?_)
  try rw [hW4]
  clear hMU hW3 hW4 hW3b hl3 HA4 HL4 ux0 ux1 ux2
  obtain ⟨FB, hFB⟩ : ∃ x', (fieldL fs bodySumL).getD [] = x' := ⟨_, rfl⟩
  obtain ⟨FBB, hFBB⟩ : ∃ x', (fieldL fs bodySumL).isSome = x' := ⟨_, rfl⟩
  have HFb : Hid (∀ W, Q w W → Calls Tryz.prog 71 #[.slice A n c, .string ⟨#[120, 45, 97, 109, 122, 45, 99, 111, 110, 116, 101, 110, 116, 45, 115, 104, 97, 50, 53, 54]⟩] W fun e w' => e = .returned (.tuple #[.string ⟨FB.toArray⟩, .bool FBB]) ∧ Q W w') := Lib.hid (fun W hq => by
    have := HFd.out bodySumL W (by decide) hq
    rw [hFB, hFBB] at this; exact this)
  rw [hFB] at HWo
  clear hFB hFBB
  obtain ⟨b0, b1, b2, b3, b4, b5⟩ := HA5.out.b.c
  simp only at b0 b1 b2 b4 b5
  go_wp2_with fail
  refine (HFb.out _ HA5.out.q).mono ?_
  rintro e v5 ⟨rfl, hq5⟩
  have HA6 := Lib.hid (HA5.out.mv hq5)
  have HL6 := Lib.hid (HL5.out.q hq5)
  have HU6 := Lib.hid (HU5.out.q hq5)
  clear hq5 b0 b1 b2 b3 b4 b5 HA5 HL5 HU5 HFb
  obtain ⟨MX, hMX⟩ : ∃ x', max (TT - now) (now - TT) = x' := ⟨_, rfl⟩
  rw [hMX] at HWo
  have hmx : MX ≤ 253402300799 ∧ -253402300799 ≤ MX := by omega
  obtain ⟨hmx1, hmx2⟩ := hmx
  by_cases h900 : 900 < MX
  · have HNo : Hid (q = (zeroU, 75)) := Lib.hid (HWo.out _ (by rw [if_pos h900]))
    have g6 : decide (900 < MX) = true := by simpa using h900
    clear h900 HWo
    go_wp2_with fail
    refine (stop_any 75 _).mono ?_
    rintro e wx ⟨⟨bf, rfl, hf⟩, hq⟩
    have HAx := Lib.hid (HA6.out.mv hq)
    have HFx := Lib.hid hf
    clear hf hq
    go_wp2_with (refine wpList_store_row rfl 26 _ _ rfl (N + 1) (userC zeroU).toArray (by rfl) (by rfl) 26 _ HAx.out.z (infoUsrS _) rfl (userC_one _) ?_)
    have hz2 := HAx.out.z.row zeroU
    have hg2 : GX [N + 1] wx (wx.setRow (N + 1) (userC zeroU).toArray) := (GX.refl _ wx).setRow (by simp) _
    have hq2 : Q w (wx.setRow (N + 1) (userC zeroU).toArray) := hg2.toQ HAx.out.q (fun k hk => by have := HAx.out.lo; simp at hk; omega)
    have hf2 : FaultAt (wx.setRow (N + 1) (userC zeroU).toArray) bf 75 0 := fault_gx HFx.out hg2 (by intro e; exact fault_neU HFx.out HAx.out.z (by simpa using e))
    generalize wx.setRow (N + 1) (userC zeroU).toArray = W9 at hz2 hq2 hf2 ⊢
    clear hg2
    have HZ9 := Lib.hid hz2
    have HQ9 := Lib.hid hq2
    have HF9 := Lib.hid hf2
    clear hz2 hq2 hf2 HFx HAx
    go_wp2_with fail
    refine bodyPost_ret (v := .tuple #[.agg (userC zeroU).toArray, .iface 101 (.pointer (some ⟨bf, 0, none⟩))]) ?_ rfl (by unfold ChkPost; rw [HNo.out]; exact ⟨.inr ⟨rfl, bf, rfl, HF9.out⟩, HQ9.out⟩)
    exact results_cell_row2 rfl _ _ (N + 1) 26 _ (0, 0) _ _ (by rfl) (by rfl) HZ9.out Tryz.underlying26 rfl (infoUsrS _)
  have g6 : decide (900 < MX) = false := by simpa using h900
  have HW7 : Hid (∀ X, (if sigL uc STV rg cq ≠ xs then (zeroU, 74) else if FB ≠ unsignedL ∧ FB ≠ hexL (sha body) then (zeroU, 76) else (⟨un, ui, uc⟩, 0)) = X → q = X) := Lib.hid (fun X h => HWo.out _ (by rw [if_neg h900]; exact h))
  clear h900 HWo
  obtain ⟨SG, hSG⟩ : ∃ x', sigL uc STV rg cq = x' := ⟨_, rfl⟩
  have HSg : Hid (∀ W, Calls Tryz.prog 34 #[.string ⟨uc.toArray⟩, .string ⟨STV.toArray⟩, .string ⟨rg.toArray⟩, .string ⟨cq.toArray⟩] W fun e w' => e = .returned (.string ⟨SG.toArray⟩) ∧ Q W w') := Lib.hid (fun W => by rw [← hSG]; exact signature_any uc STV rg cq W (by omega) (by omega) hRgl hcql)
  rw [hSG] at HW7
  clear hSG
  by_cases hsg : SG = xs
  rotate_left
  · have HNo : Hid (q = (zeroU, 74)) := Lib.hid (HW7.out _ (by rw [if_pos hsg]))
    have g7 : (SG == xs) = false := by simpa using hsg
    have g7' : (!(SG == xs)) = true := by rw [g7]; rfl
    clear hsg HW7
    go_upto_region 24 with (fail)
    clear g6
    have y2 : ∀ mm : QW v5, mm.val.cell? ⟨MU, 2, none⟩ = some (.string ⟨uc.toArray⟩) := fun mm => mm.cell HU6.out.c.2.2
    have y3 : ∀ mm : QW v5, mm.val.cell? ⟨M, 3, none⟩ = some (.string ⟨xs.toArray⟩) := fun mm => mm.cell HL6.out.c.2.2.2.1
    refine wp_region_q (by kernel_rfl) (by kernel_rfl) ?_
    (repeat (go_big_quiet_step ((go_at_call 34; exact calls_q (HSg.out _)))))
    refine wpQuiet_nil ?_
    rintro v6 ⟨m6, hm6⟩
    have hq6 : Q v5 v6 := by rw [hm6]; exact m6.le
    have HA7 := Lib.hid (HA6.out.mv hq6)
    have HU7 := Lib.hid (HU6.out.q hq6)
    clear m6 hm6 hq6 y2 y3 HA6 HU6 HL6 HSg
    go_wp2_with fail
    refine (stop_any 74 _).mono ?_
    rintro e wx ⟨⟨bf, rfl, hf⟩, hq⟩
    have HAx := Lib.hid (HA7.out.mv hq)
    have HFx := Lib.hid hf
    clear hf hq
    go_wp2_with (refine wpList_store_row rfl 26 _ _ rfl (N + 1) (userC zeroU).toArray (by rfl) (by rfl) 26 _ HAx.out.z (infoUsrS _) rfl (userC_one _) ?_)
    have hz2 := HAx.out.z.row zeroU
    have hg2 : GX [N + 1] wx (wx.setRow (N + 1) (userC zeroU).toArray) := (GX.refl _ wx).setRow (by simp) _
    have hq2 : Q w (wx.setRow (N + 1) (userC zeroU).toArray) := hg2.toQ HAx.out.q (fun k hk => by have := HAx.out.lo; simp at hk; omega)
    have hf2 : FaultAt (wx.setRow (N + 1) (userC zeroU).toArray) bf 74 0 := fault_gx HFx.out hg2 (by intro e; exact fault_neU HFx.out HAx.out.z (by simpa using e))
    generalize wx.setRow (N + 1) (userC zeroU).toArray = W9 at hz2 hq2 hf2 ⊢
    clear hg2
    have HZ9 := Lib.hid hz2
    have HQ9 := Lib.hid hq2
    have HF9 := Lib.hid hf2
    clear hz2 hq2 hf2 HFx HAx
    go_wp2_with fail
    refine bodyPost_ret (v := .tuple #[.agg (userC zeroU).toArray, .iface 101 (.pointer (some ⟨bf, 0, none⟩))]) ?_ rfl (by unfold ChkPost; rw [HNo.out]; exact ⟨.inr ⟨rfl, bf, rfl, HF9.out⟩, HQ9.out⟩)
    exact results_cell_row2 rfl _ _ (N + 1) 26 _ (0, 0) _ _ (by rfl) (by rfl) HZ9.out Tryz.underlying26 rfl (infoUsrS _)
  have g7 : (SG == xs) = true := by simpa using hsg
  have g7' : (!(SG == xs)) = false := by rw [g7]; rfl
  have HW8 : Hid (∀ X, (if FB ≠ unsignedL ∧ FB ≠ hexL (sha body) then (zeroU, 76) else (⟨un, ui, uc⟩, 0)) = X → q = X) := Lib.hid (fun X h => HW7.out _ (by rw [if_neg (not_not_intro hsg)]; exact h))
  clear hsg HW7
  go_upto_region 24 with (fail)
  clear g6
  have y2 : ∀ mm : QW v5, mm.val.cell? ⟨MU, 2, none⟩ = some (.string ⟨uc.toArray⟩) := fun mm => mm.cell HU6.out.c.2.2
  have y3 : ∀ mm : QW v5, mm.val.cell? ⟨M, 3, none⟩ = some (.string ⟨xs.toArray⟩) := fun mm => mm.cell HL6.out.c.2.2.2.1
  refine wp_region_q (by kernel_rfl) (by kernel_rfl) ?_
  (repeat (go_big_quiet_step ((go_at_call 34; exact calls_q (HSg.out _)))))
  refine wpQuiet_nil ?_
  rintro v6 ⟨m6, hm6⟩
  have hq6 : Q v5 v6 := by rw [hm6]; exact m6.le
  have HA7 := Lib.hid (HA6.out.mv hq6)
  have HU7 := Lib.hid (HU6.out.q hq6)
  clear m6 hm6 hq6 y2 y3 HA6 HU6 HL6 HSg
  obtain ⟨HX, hHX⟩ : ∃ x', hexL (sha body) = x' := ⟨_, rfl⟩
  obtain ⟨SH, hSH⟩ : ∃ x', sha body = x' := ⟨_, rfl⟩
  rw [hHX, hSH] at HHx
  rw [hSH] at HSh
  rw [hHX] at HW8
  clear hHX hSH
  by_cases hun : FB = unsignedL
  · have g8 : (FB == [85, 78, 83, 73, 71, 78, 69, 68, 45, 80, 65, 89, 76, 79, 65, 68]) = true := by rw [hun]; rfl
    have g8' : (!(FB == [85, 78, 83, 73, 71, 78, 69, 68, 45, 80, 65, 89, 76, 79, 65, 68])) = false := by rw [g8]; rfl
    have HYes : Hid (q = (⟨un, ui, uc⟩, 0)) := Lib.hid (HW8.out _ (by rw [if_neg (fun h => h.1 hun)]))
    have c0 := HU7.out.c.1
    have c1 := HU7.out.c.2.1
    have c2 := HU7.out.c.2.2
    simp only at c0 c1 c2
    have HA9 := HA7
    clear hun HW8 HA7
    go_upto_region 28 with (fail)
    iterate 4 go_step
    refine wpList_store_row rfl 26 _ _ rfl (N + 1) (userC ⟨un, ui, uc⟩).toArray (by rfl) (by rfl) 26 _ HA9.out.z (infoUsrS _) rfl (userC_one _) ?_
    have hz2 := HA9.out.z.row ⟨un, ui, uc⟩
    have hq2 := Q.setRow HA9.out.q (show w.heap.size ≤ N + 1 by have := HA9.out.lo; omega) (userC ⟨un, ui, uc⟩).toArray
    clear HA9
    rename World => wv
    generalize World.setRow _ (N + 1) (userC ⟨un, ui, uc⟩).toArray = W9 at hz2 hq2 ⊢
    have HZ9 := Lib.hid hz2
    have HQ9 := Lib.hid hq2
    clear hz2 hq2 c0 c1 c2
    go_wp2_with fail
    refine bodyPost_ret (v := .tuple #[.agg (userC ⟨un, ui, uc⟩).toArray, .nilIface]) ?_ rfl (by unfold ChkPost; rw [HYes.out]; exact ⟨.inl ⟨rfl, rfl⟩, HQ9.out⟩)
    exact results_cell_row2 rfl _ _ (N + 1) 26 _ (0, 0) _ _ (by rfl) (by rfl) HZ9.out Tryz.underlying26 rfl (infoUsrS _)
  have g8 : (FB == [85, 78, 83, 73, 71, 78, 69, 68, 45, 80, 65, 89, 76, 79, 65, 68]) = false := by rw [beq_eq_false_iff_ne]; exact hun
  have g8' : (!(FB == [85, 78, 83, 73, 71, 78, 69, 68, 45, 80, 65, 89, 76, 79, 65, 68])) = true := by rw [g8]; rfl
  have HUN := Lib.hid hun
  have b4 := HA7.out.b.c.2.2.2.2.1
  simp only at b4
  clear hun
  go_wp2_with fail
  refine (HSh.out _).mono ?_
  rintro e v7 ⟨rfl, hq7⟩
  go_wp2_with fail
  refine (HHx.out _).mono ?_
  rintro e v8 ⟨rfl, hq8⟩
  have HA9 := Lib.hid (HA7.out.mv (hq7.trans hq8))
  have HU9 := Lib.hid (HU7.out.q (hq7.trans hq8))
  clear hq7 hq8 b4 HA7 HU7
  by_cases hhx : FB = HX
  · have g9 : (FB == HX) = true := by simpa using hhx
    have g9' : (!(FB == HX)) = false := by rw [g9]; rfl
    have HYes : Hid (q = (⟨un, ui, uc⟩, 0)) := Lib.hid (HW8.out _ (by rw [if_neg (fun h => h.2 hhx)]))
    have c0 := HU9.out.c.1
    have c1 := HU9.out.c.2.1
    have c2 := HU9.out.c.2.2
    simp only at c0 c1 c2
    clear hhx HW8
    go_upto_region 28 with (fail)
    iterate 4 go_step
    refine wpList_store_row rfl 26 _ _ rfl (N + 1) (userC ⟨un, ui, uc⟩).toArray (by rfl) (by rfl) 26 _ HA9.out.z (infoUsrS _) rfl (userC_one _) ?_
    have hz2 := HA9.out.z.row ⟨un, ui, uc⟩
    have hq2 := Q.setRow HA9.out.q (show w.heap.size ≤ N + 1 by have := HA9.out.lo; omega) (userC ⟨un, ui, uc⟩).toArray
    clear HA9
    rename World => wv
    generalize World.setRow _ (N + 1) (userC ⟨un, ui, uc⟩).toArray = W9 at hz2 hq2 ⊢
    have HZ9 := Lib.hid hz2
    have HQ9 := Lib.hid hq2
    clear hz2 hq2 c0 c1 c2
    go_wp2_with fail
    refine bodyPost_ret (v := .tuple #[.agg (userC ⟨un, ui, uc⟩).toArray, .nilIface]) ?_ rfl (by unfold ChkPost; rw [HYes.out]; exact ⟨.inl ⟨rfl, rfl⟩, HQ9.out⟩)
    exact results_cell_row2 rfl _ _ (N + 1) 26 _ (0, 0) _ _ (by rfl) (by rfl) HZ9.out Tryz.underlying26 rfl (infoUsrS _)
  have g9 : (FB == HX) = false := by simpa using hhx
  have g9' : (!(FB == HX)) = true := by rw [g9]; rfl
  have HNo : Hid (q = (zeroU, 76)) := Lib.hid (HW8.out _ (by rw [if_pos ⟨HUN.out, hhx⟩]))
  clear hhx HW8 HUN
  go_wp2_with fail
  refine (stop_any 76 _).mono ?_
  rintro e wx ⟨⟨bf, rfl, hf⟩, hq⟩
  have HAx := Lib.hid (HA9.out.mv hq)
  have HFx := Lib.hid hf
  clear hf hq
  go_wp2_with (refine wpList_store_row rfl 26 _ _ rfl (N + 1) (userC zeroU).toArray (by rfl) (by rfl) 26 _ HAx.out.z (infoUsrS _) rfl (userC_one _) ?_)
  have hz2 := HAx.out.z.row zeroU
  have hg2 : GX [N + 1] wx (wx.setRow (N + 1) (userC zeroU).toArray) := (GX.refl _ wx).setRow (by simp) _
  have hq2 : Q w (wx.setRow (N + 1) (userC zeroU).toArray) := hg2.toQ HAx.out.q (fun k hk => by have := HAx.out.lo; simp at hk; omega)
  have hf2 : FaultAt (wx.setRow (N + 1) (userC zeroU).toArray) bf 76 0 := fault_gx HFx.out hg2 (by intro e; exact fault_neU HFx.out HAx.out.z (by simpa using e))
  generalize wx.setRow (N + 1) (userC zeroU).toArray = W9 at hz2 hq2 hf2 ⊢
  clear hg2
  have HZ9 := Lib.hid hz2
  have HQ9 := Lib.hid hq2
  have HF9 := Lib.hid hf2
  clear hz2 hq2 hf2 HFx HAx
  go_wp2_with fail
  refine bodyPost_ret (v := .tuple #[.agg (userC zeroU).toArray, .iface 101 (.pointer (some ⟨bf, 0, none⟩))]) ?_ rfl (by unfold ChkPost; rw [HNo.out]; exact ⟨.inr ⟨rfl, bf, rfl, HF9.out⟩, HQ9.out⟩)
  exact results_cell_row2 rfl _ _ (N + 1) 26 _ (0, 0) _ _ (by rfl) (by rfl) HZ9.out Tryz.underlying26 rfl (infoUsrS _)
end Go.Proofs.YtmmoenbmgcplkaaGreatDoor
