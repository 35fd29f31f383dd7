/- Texts of this proof, laid into one: Sjd, Sje, Sjg, Flo, Flw. -/
import Derived.Test.YtmmoenbmgcplkaaGreatDoorMy15
import Derived.Deep.RegionHeld3
set_option linter.unusedVariables false
set_option linter.unusedSimpArgs false
namespace Go.Proofs.YtmmoenbmgcplkaaGreatDoor
open Go Go.RowKit
def UW (w : World) (M : Nat) (u : UserD) : World → Prop := fun W => Q w W ∧ UB W M u
theorem UB.rowO {w : World} {b c : Nat} {u : UserD} (h : UB w b u) (hn : b ≠ c) (cs : Array Value) : UB (w.setRow c cs) b u := by
  have : GX [c] w (w.setRow c cs) := (GX.refl _ w).setRow (by simp) _
  exact this.heap (by simpa using hn) h
def CkPost (q : UserD × Int) (w : World) (e : Ending) (w' : World) : Prop := e = .returned (.tuple #[.agg (userC q.1).toArray, .int .i64 q.2]) ∧ Q w w'
set_option maxRecDepth 100000 in
set_option maxHeartbeats 4000000 in
theorem Check_any (r : ReqD) (A : Option Addr) (n c : Nat) (B : Option Addr) (k kc : Nat) (us : List UserD) (now : Int) (rg : List UInt8) (w : World) (hf : PairsAt w A n r.fs) (hc : n ≤ c) (hcap : c ≤ 9223372036854775807) (hu : UsersAt w B k us) (hk : k ≤ 9223372036854775807) (hok : ChkOk r us rg) (hS : S17 w) :
    Calls Tryz.prog 11 #[.agg (reqC r A n c).toArray, .slice B k kc, .int .i64 now, .string ⟨rg.toArray⟩] w (CkPost (checkQ r us now rg) w) := by
  have HC := Lib.hid (fun W (hq : Q w W) => check_any r A n c B k kc us now rg W (hf.q hq) hc hcap (hu.q hq) hk hok (hS.q hq))
  have HS := Lib.hid hS
  obtain ⟨N, w1, w2, hN, e1, hN1, e2, hat⟩ := check_boxes w r (.slice A n c)
  have HA := Lib.hid hat
  obtain ⟨q, hq⟩ : ∃ q, checkQ r us now rg = q := ⟨_, rfl⟩
  rw [hq] at HC ⊢
  clear hat hS hf hu hok hq hc hcap hk
  obtain ⟨m, tg, minor, fs, body, close⟩ := r
  obtain ⟨qu, qe⟩ := q
  simp only [reqV, userC, zeroU] at e1 e2
  unfold reqC at HC ⊢
  unfold ChkPost at HC
  have HNN : Hid (w.heap.size ≤ N) := Lib.hid (by omega)
  obtain ⟨b0, b1, b2, b3, b4, b5⟩ := HA.out.b.c
  go_enter Tryz.func11, Tryz.ntmps11
  go_wp2_with fail
  refine (HC.out _ HA.out.q).mono ?_
  clear b0 b1 b2 b3 b4 b5 HC
  have fin : ∀ (e : Value) (w3 : World), Hid (∀ W, Q w3 W → Calls Tryz.prog 31 #[e] W fun x w' => x = .returned (.int .i64 qe) ∧ Q W w') → Hid (ChkAt w w3 N ⟨m, tg, minor, fs, body, close⟩ (.slice A n c)) → True := fun _ _ _ _ => trivial
  clear fin
  intro e w3 hh
  have hcase : ∃ ev : Value, e = .returned (.tuple #[.agg (userC qu).toArray, ev]) ∧ Q w2 w3 ∧ ∀ W, Q w3 W → Calls Tryz.prog 31 #[ev] W fun x w' => x = .returned (.int .i64 qe) ∧ Q W w' := by
    obtain ⟨h1, hq⟩ := hh
    rcases h1 with ⟨h0, rfl⟩ | ⟨h0, b, rfl, hfa⟩
    · subst h0
      exact ⟨.nilIface, rfl, hq, fun W _ => why_nil W⟩
    · subst h0
      exact ⟨_, rfl, hq, fun W hW => why_fault b qe 0 W (hfa.q hW) ((HS.out.q (HA.out.q.trans (hq.trans hW))).et)⟩
  obtain ⟨ev, rfl, hq3, hwhy⟩ := hcase
  have HW := Lib.hid hwhy
  have HA3 := Lib.hid (HA.out.mv hq3)
  clear hh hq3 hwhy HA e1 e2 hN hN1 HS
  obtain ⟨M, W3, W4, hM, hW3, hl3, hW4, hl4, hq4⟩ := usr_boxes w3 qu
  have HA4 := Lib.hid (HA3.out.mv hq4)
  have HU4 := Lib.hid hl4
  have HQ4 := Lib.hid hq4
  have hMN : M ≠ N + 1 := by have := lt_of_heap HA3.out.z; omega
  have hW3b : w3.alloc (.cells #[.string ⟨#[]⟩, .string ⟨#[]⟩, .string ⟨#[]⟩] 26) = W3 := hW3
  clear hq4 hl4
  go_upto_region 2 with (refine wpList_store_row rfl 26 _ _ rfl M (userC qu).toArray (by rfl) (by rfl) 26 _ hl3 (infoUsrS _) rfl (userC_one _) ?_)
  try rw [hW4]
  clear hM hW3 hW4 hW3b hl3 HA3
  haveI hne : Nonempty (SW (UW w M qu)) := ⟨⟨W4.drew, HA4.out.q.drew, HU4.out⟩⟩
  refine wp_region_noPanic ?_
  refine wp_plan_S (UW w M qu) ⟨HA4.out.q.drew, HU4.out⟩ [([0, 1], [2]), ([], [3, 4])] (by kernel_rfl) (by kernel_rfl) (fun _ _ _ _ _ h => h) ?_
  simp only [wpPlan, wpListK, List.map_cons, List.map_nil, Array.getD_eq_getD_getElem?, List.getElem?_toArray, List.getElem?_cons_succ, List.getElem?_cons_zero, Option.getD_some]
  refine wpQuiet_load_row rfl 26 (.tmp 10) rfl M (by rfl) 26 (userC qu).toArray (0, 0) _ (fun w' hw' => by obtain ⟨mm, rfl⟩ := hw'; exact mm.property.2) Tryz.underlying26 rfl (infoUsrS _) ?_
  simp only [Act.put, List.setIfInBounds_toArray, List.set_cons_succ, List.set_cons_zero]
  (repeat (go_big_quiet_step (fail)))
  refine wpQuiet_nil ?_
  intro K hK
  go_wp2_with fail
  refine (HW.out _ (HQ4.out.trans ((Q.refl W4).drew))).mono ?_
  rintro e w5 ⟨rfl, hq5⟩
  have HA5 := Lib.hid (HA4.out.mv ((Q.refl W4).drew.trans hq5))
  have HU5 := Lib.hid (HU4.out.q ((Q.refl W4).drew.trans hq5))
  clear hq5
  go_wp2_with fail
  refine hK.out _ _ ⟨⟨w5, HA5.out.q, HU5.out⟩, rfl⟩ ?_
  clear hK K
  refine wpQuiet_nil ?_
  intro K hK
  refine wpList_store_row rfl 26 _ _ rfl (N + 1) (userC qu).toArray (by rfl) (by rfl) 26 _ HA5.out.z (infoUsrS _) rfl (userC_one _) ?_
  refine wpList_nil ?_
  have hz := HA5.out.z.row qu
  have hq := Q.setRow HA5.out.q (show w.heap.size ≤ N + 1 by have := HNN.out; omega) (userC qu).toArray
  have hu2 := HU5.out.rowO hMN (userC qu).toArray
  generalize w5.setRow (N + 1) (userC qu).toArray = W9 at hz hq hu2 ⊢
  refine hK.out _ _ ⟨⟨W9, hq, hu2⟩, rfl⟩ ?_
  have HZ9 := Lib.hid hz
  have HQ9 := Lib.hid hq
  have HU9 := Lib.hid hu2
  clear hK K hz hq hu2 HA5 HU5 hne
  intro K hK
  go_wp2_with fail
  refine hK.out _ _ ⟨⟨W9, HQ9.out, HU9.out⟩, rfl⟩ ?_
  refine NoPanic.normal ?_
  go_wp2_with fail
  refine bodyPost_ret (v := .tuple #[.agg (userC qu).toArray, .int .i64 qe]) ?_ rfl ⟨rfl, HQ9.out⟩
  exact results_cell_row2 rfl _ _ (N + 1) 26 _ (0, 0) _ _ (by rfl) (by rfl) HZ9.out Tryz.underlying26 rfl (infoUsrS _)
end Go.Proofs.YtmmoenbmgcplkaaGreatDoor
set_option linter.unusedVariables false
set_option linter.unusedSimpArgs false
namespace Go.Proofs.YtmmoenbmgcplkaaGreatDoor
open Go Go.RowKit
def exR : ReqD := ⟨[71, 69, 84], [47, 98, 47, 107, 63, 122, 61, 49, 38, 97], 1, [(hostL, [104])], [], false⟩
def exU : UserD := ⟨[110], [65], [115]⟩
def exW : List UInt8 := [71, 69, 84, 10, 47, 98, 47, 107, 10, 97, 61, 38, 122, 61, 49, 10, 104, 111, 115, 116, 58, 104, 10, 10, 104, 111, 115, 116, 10] ++ [101, 51, 98, 48, 99, 52, 52, 50, 57, 56, 102, 99, 49, 99, 49, 52, 57, 97, 102, 98, 102, 52, 99, 56, 57, 57, 54, 102, 98, 57, 50, 52, 50, 55, 97, 101, 52, 49, 101, 52, 54, 52, 57, 98, 57, 51, 52, 99, 97, 52, 57, 53, 57, 57, 49, 98, 55, 56, 53, 50, 98, 56, 53, 53]
theorem ex_sign : (signQ exR exU 1369353600 [114]).isSome = true := by decide +kernel
theorem exs_map : [(([122] : List UInt8), ([49] : List UInt8)), ([97], [])].map encP = [([122], [49]), ([97], [])] := by decide +kernel
theorem exs_sort : sortP [(([122] : List UInt8), ([49] : List UInt8)), ([97], [])] = [([97], []), ([122], [49])] := by
  have h : (ltOf pcmp) (([97] : List UInt8), ([] : List UInt8)) ([122], [49]) = true := by decide +kernel
  unfold sortP
  simp [List.mergeSort, List.MergeSort.Internal.splitInTwo, h]
theorem exs_canon : canonL [([122], [49]), ([97], [])] = [97, 61, 38, 122, 61, 49] := by
  unfold canonL partsL
  rw [exs_map, exs_sort]
  decide +kernel
theorem exs_tgt : tgtL exR.tg = ([47, 98, 47, 107], [([122], [49]), ([97], [])], 0, 0) := by decide +kernel
theorem exs_ok : namesOk [hostL] := by decide +kernel
theorem exs_lines : linesL (dressR exR 1369353600).fs [hostL] = some [[104, 111, 115, 116, 58, 104]] := by decide +kernel
theorem exs_sum : fieldL (dressR exR 1369353600).fs bodySumL = some [101, 51, 98, 48, 99, 52, 52, 50, 57, 56, 102, 99, 49, 99, 49, 52, 57, 97, 102, 98, 102, 52, 99, 56, 57, 57, 54, 102, 98, 57, 50, 52, 50, 55, 97, 101, 52, 49, 101, 52, 54, 52, 57, 98, 57, 51, 52, 99, 97, 52, 57, 53, 57, 57, 49, 98, 55, 56, 53, 50, 98, 56, 53, 53] := by decide +kernel
theorem ex_dress : canonQ (dressR exR 1369353600) [hostL] = some exW := by
  have ht : tgtL (dressR exR 1369353600).tg = ([47, 98, 47, 107], [([122], [49]), ([97], [])], 0, 0) := exs_tgt
  unfold canonQ headL
  rw [ht, if_pos ⟨rfl, exs_ok⟩, exs_lines, exs_sum]
  simp only
  rw [exs_canon]
  decide +kernel
theorem ex_none : checkQ exR [exU] 0 [114] = (zeroU, 71) := by decide +kernel
theorem who_back {r : ReqD} {u : UserD} {now : Int} {rg : List UInt8} {q : ReqD} {c : List UInt8} (h : SignedQ r u now rg q c) (us : List UserD) (at_ : Int) (hf : us.find? (fun v => v.id == u.id) = some u) (ht : TimeOk at_) :
    checkQ q us at_ rg = if 900 < max (now - at_) (at_ - now) then (zeroU, 75) else (u, 0) := by
  have hs := check_signed h q.body us at_ rg
  rw [if_pos ht, if_pos rfl] at hs
  have e : ({ q with body := q.body } : ReqD) = q := rfl
  rw [e] at hs
  rw [hs]
  unfold whoQ
  rw [hf]
  simp only
  by_cases h9 : 900 < max (now - at_) (at_ - now)
  · rw [if_pos h9, if_pos h9]
  · rw [if_neg h9, if_neg h9, if_neg (fun hh => hh rfl), if_neg]
    rintro ⟨_, h2⟩
    apply h2
    rw [h.sum, Option.getD_some]
    rw [h.e]
theorem ex_all : ∃ q c, signQ exR exU 1369353600 [114] = some q ∧ SignedQ exR exU 1369353600 [114] q c ∧ checkQ q [exU] 1369353600 [114] = (exU, 0) ∧ checkQ q [exU] 1369354501 [114] = (zeroU, 75) ∧ canonQ q [hostL] = some exW ∧ q.fs.length = 4 := by
  obtain ⟨q, hq⟩ := Option.isSome_iff_exists.1 ex_sign
  obtain ⟨c, hc⟩ := signed_of hq
  have hf : [exU].find? (fun v => v.id == exU.id) = some exU := by simp
  refine ⟨q, c, hq, hc, ?_, ?_, ?_, ?_⟩
  · rw [who_back hc [exU] 1369353600 hf (by decide), if_neg (by decide)]
  · rw [who_back hc [exU] 1369354501 hf (by decide), if_pos (by decide)]
  · rw [← ex_dress]
    have n23 : ∀ v, isN bodySumL (authL, v) = false := fun v => isN_ne (by show smL authL ≠ smL bodySumL; decide)
    have n03 : ∀ v, isN hostL (authL, v) = false := fun v => isN_ne (by show smL authL ≠ smL hostL; decide)
    rw [hc.e]
    refine canon_same rfl rfl ?_ ?_
    · intro n hn
      simp only [List.mem_cons, List.not_mem_nil, or_false] at hn
      subst hn
      exact field_snoc_no (n03 _)
    · exact field_snoc_no (n23 _)
  · rw [hc.e]; rfl
theorem valueL_len (u : UserD) (st rg c : List UInt8) : (valueL u st rg c).length ≤ u.id.length + st.length + rg.length + 250 := by
  have h1 := scopeL_len st rg
  have h2 : (sigL u.sec st rg c).length = 64 := by unfold sigL; rw [hexL_length, mac_length]
  have h3 : (Lib.join names3 [59]).length ≤ 100 := by decide
  unfold valueL
  simp only [List.length_append, h2]
  have a1 : credL.length = 28 := rfl
  have a2 : shdL.length = 16 := rfl
  have a3 : sgnL.length = 12 := rfl
  rw [a1, a2, a3]
  simp only [List.length_cons, List.length_nil]
  omega
end Go.Proofs.YtmmoenbmgcplkaaGreatDoor
set_option linter.unusedVariables false
set_option linter.unusedSimpArgs false
namespace Go.Proofs.YtmmoenbmgcplkaaGreatDoor
open Go Go.RowKit
theorem UsersAt.lit (w : World) (us : List UserD) (n : Nat) (h : n = us.length) : UsersAt (w.alloc (.cells (us.flatMap userC).toArray 26)) (some ⟨w.heap.size, 0, none⟩) n us := by
  refine ⟨h, fun _ => ⟨w.heap.size, 0, rfl, by show _ < (w.heap.push _).size; simp, fun j hj i v hv => ?_⟩⟩
  have key : ∀ (l : List UserD) (j : Nat) (hj : j < l.length) (i : Nat) (v : Value), (userC l[j])[i]? = some v → (l.flatMap userC)[j * 3 + i]? = some v := by
    intro l
    induction l with
    | nil => intro j hj; simp at hj
    | cons a r ih =>
      intro j hj i v hv
      rw [List.flatMap_cons]
      rcases j with _ | j
      · have hi : i < (userC a).length := (List.getElem?_eq_some_iff.1 hv).1
        rw [Nat.zero_mul, Nat.zero_add, List.getElem?_append_left hi]; exact hv
      · have hl : (userC a).length = 3 := rfl
        rw [List.getElem?_append_right (by rw [hl]; omega), hl, show (j + 1) * 3 + i - 3 = j * 3 + i by omega]
        exact ih j (by simpa using hj) i v hv
  rw [cell_of_row _ _ _ _ _ _ (heap_alloc_new w _), Nat.zero_add]
  have := key us j hj i v hv
  simpa using this
theorem plain_any (w : World) : Calls Tryz.prog 23 #[] w fun e w' => (∃ A c, e = .returned (.agg (reqC exR A 1 c).toArray) ∧ 1 ≤ c ∧ c ≤ 100 ∧ PairsAt w' A 1 exR.fs) ∧ Q w w' := by
  go_enter Tryz.func23, Tryz.ntmps23
  obtain ⟨N, hN⟩ : ∃ N, w.heap.size = N := ⟨_, rfl⟩
  obtain ⟨w1, hw1⟩ : ∃ W, w.alloc (.cells (reqV zeroR (.slice none 0 0)).toArray 24) = W := ⟨_, rfl⟩
  have hb1 : RB w1 N zeroR (.slice none 0 0) := by rw [← hw1, ← hN]; exact heap_alloc_new w _
  have hq1 : Q w w1 := by rw [← hw1]; exact (Q.refl w).alloc _
  have hw1b : w.alloc (.cells #[.string ⟨#[]⟩, .string ⟨#[]⟩, .int .i64 0, .slice none 0 0, .string ⟨#[]⟩, .bool false] 24) = w1 := hw1
  obtain ⟨w2, hw2⟩ : ∃ W, w1.alloc (.cells (cellsU [(hostL, [104])]).toArray 37) = W := ⟨_, rfl⟩
  have hb2 : RB w2 N zeroR (.slice none 0 0) := by rw [← hw2]; exact hb1.q ((Q.refl w1).alloc _)
  have hq2 : Q w w2 := by rw [← hw2]; exact hq1.alloc _
  have hp2 : PairsAt w2 (some ⟨w1.heap.size, 0, none⟩) 1 [(hostL, [104])] := by rw [← hw2]; exact PairsAt.lit w1 _ rfl
  obtain ⟨g, hg⟩ : ∃ g, w1.heap.size = g := ⟨_, rfl⟩
  rw [hg] at hp2
  have hw2b : w1.alloc (.cells #[.string ⟨#[104, 111, 115, 116]⟩, .string ⟨#[104]⟩] 37) = w2 := hw2
  have hgN : g ≠ N := by rw [← hg, ← hN, ← hw1]; show (w.heap.push _).size ≠ _; simp
  clear hw1 hw2 hq1 hb1
  go_wp2_with (refine wpList_store_row rfl 24 _ _ rfl N (reqV exR (.slice (some ⟨g, 0, none⟩) 1 1)).toArray (by rfl) (by rfl) 24 _ hb2 (infoReqS _ _) rfl (reqV_one _ _ _ _) ?_)
  have hb3 := hb2.row exR (.slice (some ⟨g, 0, none⟩) 1 1)
  have hgx : GX [N] w2 (w2.setRow N (reqV exR (.slice (some ⟨g, 0, none⟩) 1 1)).toArray) := (GX.refl _ w2).setRow (by simp) _
  have hq3 : Q w (w2.setRow N (reqV exR (.slice (some ⟨g, 0, none⟩) 1 1)).toArray) := Q.setRow hq2 (by rw [hN]; exact Nat.le_refl _) _
  have hp3 : PairsAt (w2.setRow N (reqV exR (.slice (some ⟨g, 0, none⟩) 1 1)).toArray) (some ⟨g, 0, none⟩) 1 exR.fs := by
    refine ⟨rfl, fun h0 => ?_⟩
    obtain ⟨g', off, e, hlt, hc⟩ := hp2.2 h0
    refine ⟨g', off, e, Nat.lt_of_lt_of_le hlt hgx.size, fun j hj i v hv => ?_⟩
    have hcc := hc j hj i v hv
    have he : g' = g := by injection e with e; injection e with e; exact e.symm
    have := hgx.block g' hlt (by rw [he]; simpa using hgN)
    unfold World.cell? at hcc ⊢
    rw [this]; exact hcc
  generalize w2.setRow N (reqV exR (.slice (some ⟨g, 0, none⟩) 1 1)).toArray = W9 at hb3 hq3 hp3 ⊢
  refine bodyPost_ret (v := .agg (reqC exR (some ⟨g, 0, none⟩) 1 1).toArray) ?_ rfl ⟨⟨_, 1, rfl, Nat.le_refl _, by omega, hp3⟩, hq3⟩
  exact results_cell_row rfl _ _ N 24 _ (0, 0) _ rfl hb3 Tryz.underlying24 rfl (infoReqS _ _)
end Go.Proofs.YtmmoenbmgcplkaaGreatDoor
set_option linter.unusedVariables false
namespace Go.Proofs.YtmmoenbmgcplkaaGreatDoor
open Go Go.RowKit
section
variable {P : Program} {ops : Array Oper} {R : Exit → Act → World → Prop}
theorem wpOp_set {j : Nat} {oz oj : Oper} {v : Value} (hj : ops[j]? = some oj) (hap : oz.apart ops oj = true) (hsj : ∀ cs b, oj.op ≠ .select cs b)
    (hQ : ∀ c a w, R (.panic c) a w → R (.panic c) (a.put oz.dst v) w) {K : Act → World → Prop} {a : Act} {w : World}
    (h : wpOp P ops R j K a w) : wpOp P ops R j (fun a' w' => ∃ a0, a' = Act.put a0 oz.dst v ∧ K a0 w') (a.put oz.dst v) w := by
  obtain ⟨h1, h2, h3⟩ := Oper.apart_spec hap
  unfold wpOp at *
  simp only [hj] at *
  rw [wanted_put oj a oz.dst v h1]
  split
  · rename_i hw
    simp only [hw, if_true] at h
    rcases h with h | ⟨hasks, hlets⟩
    case inr => exact .inr ⟨by unfold Oper.asks at *; rw [execOp_put oj hsj a oz.dst v h1]; exact hasks, hlets⟩
    refine .inl ?_
    unfold Oper.wp at *
    rw [execOp_put oj hsj a oz.dst v h1]
    generalize (execOp a.eval oj).run P w = r at *
    cases r with
    | ok n w' =>
      cases n <;> simp only [Oper.upon] at h ⊢
      case value u => exact ⟨_, Act.put_comm a v u h2, h⟩
      case skip => exact ⟨_, Act.put_comm a v undef h2, h⟩
      case defer d => exact ⟨_, by rw [Act.put_defers, Act.put_comm _ v undef h2], h⟩
      case enter f args =>
        refine Calls.mono h fun e w'' he => ?_
        cases e with
        | returned u => exact ⟨_, Act.put_comm a v u h2, he⟩
        | panicked c => exact hQ _ _ _ he
        | outgrown => exact he
      case row row args => exact Rows.mono h fun u w'' he => ⟨_, Act.put_comm a v u h2, he⟩
    | halt x w' =>
      cases x <;> simp only [Oper.upon] at h ⊢
      case panic u => exact hQ _ _ _ h
  · rename_i hw
    simp only [hw] at h
    exact ⟨_, Act.put_comm a v undef h2, h⟩
def wpCh (P : Program) (ops : Array Oper) (R : Exit → Act → World → Prop) (E : Act → World → Prop) : List (Oper × List Oper) → Act → World → Prop
  | [], a, w => E a w
  | (o, q) :: r, a, w => ∀ W, Q w W → ∀ K : Act → World → Prop, Hid (∀ a' w', Q W w' → wpQuiet P ops (fun _ => True) (fun a'' => wpCh P ops R E r a'' w') q a' → K a' w') → wpList P ops (Exit.then K R) [o] a W
def wpChE (P : Program) (ops : Array Oper) (R : Exit → Act → World → Prop) (N : Nat) (obj : Obj) (zd : Option Tmp) (zs : List Oper) (a : Act) (w : World) : Prop :=
  ∀ W b, Q w W → W.heap[b]? = some obj → N ≤ b → wpList P ops R zs (a.put zd (.pointer (some ⟨b, 0, none⟩))) W
theorem wpQuiet_set {T : World → Prop} {K : Act → Prop} {oz : Oper} {v : Value} (l : List Oper) : ∀ (a : Act), (∀ o ∈ l, oz.apart ops o = true) → (∀ o ∈ l, ∀ cs b, o.op ≠ .select cs b) →
    wpQuiet P ops T K l a → wpQuiet P ops T (fun a' => ∃ a0, a' = Act.put a0 oz.dst v ∧ K a0) l (a.put oz.dst v) := by
  induction l with
  | nil => intro a _ _ h; exact ⟨a, rfl, h⟩
  | cons o r ih =>
    intro a hap hse h
    obtain ⟨h1, h2, h3⟩ := Oper.apart_spec (hap o (by simp))
    have ihr := fun a h => ih a (fun o ho => hap o (List.mem_cons_of_mem _ ho)) (fun o ho => hse o (List.mem_cons_of_mem _ ho)) h
    unfold wpQuiet at h ⊢
    rw [wanted_put o a oz.dst v h1]
    split at h
    · next hw =>
      rw [if_pos hw]
      obtain ⟨x, hx, hn⟩ := h
      refine ⟨x, fun w hw => ?_, ?_⟩
      · have := hx w hw
        unfold Oper.quietAt at this ⊢
        rw [execOp_put o (hse o (by simp)) a oz.dst v h1]
        exact this
      · rw [Act.put_comm a v x h2]; exact ihr _ hn
    · next hw =>
      rw [if_neg hw, Act.put_comm a v undef h2]; exact ihr _ h
variable {w0 : World} {obj : Obj} {z : Nat} {oz : Oper} {zs : List Nat}
def opsL (ops : Array Oper) (tl : List (Nat × List Nat)) : List (Oper × List Oper) := tl.map fun p => (ops.getD p.1 default, p.2.map (ops.getD · default))
def lenC : List (Nat × List Nat) → Nat
  | [] => 0
  | (k, q) :: r => q.length + lenC r + 1
def sB (ops : Array Oper) (zs : List Nat) : List (Nat × List Nat) → Array Bool → Bool
  | [], ls => tailB .any ops zs ls && (Region.ready .any ops ls).all fun i => zs.contains i
  | (k, q) :: r, ls => decide (Region.ready .any ops ls = [k]) && (ops[k]?).isSome && pureB .any ops q (ls.setIfInBounds k true) && sB ops zs r (markB q (ls.setIfInBounds k true))
def apB (ops : Array Oper) (oz : Oper) (zs : List Nat) (tl : List (Nat × List Nat)) : Bool :=
  tl.all fun p => (p.1 :: p.2).all fun i => !zs.contains i && match ops[i]? with | some o => oz.apart ops o | none => false
theorem noSel_mem (hsel : Region.noSelect ops = true) {i : Nat} (h : (ops[i]?).isSome = true) : ∀ cs b, (ops.getD i default).op ≠ .select cs b := by
  obtain ⟨o, ho⟩ := Option.isSome_iff_exists.1 h
  have hk : ops.getD i default = o := by simp [Array.getD_eq_getD_getElem?, ho]
  rw [hk]; exact fun cs b => Region.noSelect_spec hsel i o cs b ho
theorem flo_B (hsel : Region.noSelect ops = true) (hQ1 : ∀ c a d v w, R (.panic c) (Act.put a d v) w → R (.panic c) a w) (hQ : ∀ c a d v w, R (.panic c) a w → R (.panic c) (Act.put a d v) w) (tl : List (Nat × List Nat)) : ∀ (ls : Array Bool) (a : Act) (w W : World) (b : Nat), ClosedL ops ls →
    apB ops oz zs tl = true → sB ops zs tl ls = true → Q w0 w → Q w W → W.heap[b]? = some obj → w0.heap.size ≤ b →
    wpCh P ops R (wpChE P ops R w0.heap.size obj oz.dst (zs.map (ops.getD · default))) (opsL ops tl) a w → wpAnyZ P ops R (fun w' => ∃ m : QW w0, w' = m.val) zs (lenC tl + zs.length) ls (a.put oz.dst (.pointer (some ⟨b, 0, none⟩))) W := by
  induction tl with
  | nil =>
    intro ls a w W b _ _ hB h0 hW hb hN h
    simp only [sB, Bool.and_eq_true] at hB
    have h1 := wpAny_of_held _ _ _ _ (any_tail zs ls _ W hB.1 (h W b hW hb hN))
    have e : lenC [] + zs.length = zs.length := by simp [lenC]
    rw [e]
    generalize zs.length = f at h1
    cases f with
    | zero => exact h1
    | succ f =>
      refine ⟨h1.1, fun i hi => wpOp_mono (fun a' w' h' => ?_) (h1.2 i hi)⟩
      rw [if_pos (by simpa using List.all_eq_true.1 hB.2 i hi)]
      exact h'
  | cons p r ih =>
    obtain ⟨k, q⟩ := p
    intro ls a w W b inv hap hB h0 hW hb hN h
    simp only [sB, Bool.and_eq_true, decide_eq_true_eq] at hB
    obtain ⟨⟨⟨b1, b2⟩, b3⟩, b4⟩ := hB
    have hap2 : apB ops oz zs r = true := by
      unfold apB at hap ⊢; rw [List.all_cons, Bool.and_eq_true] at hap; exact hap.2
    have hapk : ∀ i ∈ k :: q, i ∉ zs ∧ ∃ o, ops[i]? = some o ∧ oz.apart ops o = true := fun i hi => by
      unfold apB at hap; rw [List.all_cons, Bool.and_eq_true] at hap
      have := List.all_eq_true.1 hap.1 i hi
      simp only [Bool.and_eq_true] at this
      refine ⟨fun e => (by have := this.1; rw [List.contains_iff_mem.2 e] at this; cases this), ?_⟩
      cases ho : ops[i]? with
      | none => rw [ho] at this; exact absurd this.2 (by simp)
      | some o => rw [ho] at this; exact ⟨o, rfl, this.2⟩
    have e : lenC ((k, q) :: r) + zs.length = (q.length + (lenC r + zs.length)) + 1 := by simp [lenC]; omega
    rw [e]
    refine ⟨fun hn => (by rw [b1] at hn; cases hn), fun i hi => ?_⟩
    have hi' := hi
    rw [b1] at hi
    have e : i = k := by simpa using hi
    subst e
    obtain ⟨hizs, o, ho, hapo⟩ := hapk i (by simp)
    have hk : ops.getD i default = o := by simp [Array.getD_eq_getD_getElem?, ho]
    have h2 : wpCh P ops R (wpChE P ops R w0.heap.size obj oz.dst (zs.map (ops.getD · default))) ((o, q.map (ops.getD · default)) :: opsL ops r) a w := by
      have := h
      simp only [opsL, List.map_cons, hk] at this
      exact this
    have h1 : wpOp P ops R i (fun a' w' => Q W w' ∧ wpQuiet P ops (fun _ => True) (fun a'' => wpCh P ops R (wpChE P ops R w0.heap.size obj oz.dst (zs.map (ops.getD · default))) (opsL ops r) a'' w') (q.map (ops.getD · default)) a') a W :=
      wpOp_of_one ho (h2 W hW _ (fun a' w' hq h' => ⟨hq, h'⟩))
    refine wpOp_mono (fun a' w' h' => ?_) (wpOp_set (oz := oz) ho hapo (fun cs b => Region.noSelect_spec hsel i o cs b ho) (fun c a w => hQ c a _ _ w) h1)
    obtain ⟨a1, rfl, hq, hc⟩ := h'
    rw [if_neg hizs]
    have h0w : Q w0 w' := (h0.trans hW).trans hq
    refine ⟨⟨⟨w', h0w⟩, rfl⟩, ?_⟩
    refine headZ hsel hQ1 (T := fun _ => True) (fun _ _ => trivial) q (.inr fun _ => trivial) _ w' ⟨⟨w', h0w⟩, rfl⟩ _ _ (inv.set hi') (fun j hj => (hapk j (List.mem_cons_of_mem _ hj)).1) b3 ?_
    refine wpQuiet_mono (fun a'' h'' inv' => ?_) _ _ (wpQuiet_set (oz := oz) (v := .pointer (some ⟨b, 0, none⟩)) _ a1 (fun o ho => ?_) (fun o ho => ?_) hc)
    · obtain ⟨a2, rfl, h3⟩ := h''
      exact ih _ a2 w' w' b inv' hap2 b4 h0w (Q.refl _) (hq.block hb) hN h3
    · obtain ⟨j, hj, rfl⟩ := List.mem_map.1 ho
      obtain ⟨_, o2, ho2, hap3⟩ := hapk j (List.mem_cons_of_mem _ hj)
      have : ops.getD j default = o2 := by simp [Array.getD_eq_getD_getElem?, ho2]
      rw [this]; exact hap3
    · obtain ⟨j, hj, rfl⟩ := List.mem_map.1 ho
      obtain ⟨_, o2, ho2, _⟩ := hapk j (List.mem_cons_of_mem _ hj)
      exact noSel_mem hsel (by rw [ho2]; rfl)
def floB (ops : Array Oper) (z : Nat) (zs : List Nat) : List (Nat × List Nat) → Array Bool → Bool
  | [], ls => decide (Region.ready .any ops ls = [z]) && sB ops zs [] (ls.setIfInBounds z true)
  | (k, q) :: r, ls => (Region.ready .any ops ls).contains k && (Region.ready .any ops ls).contains z && (Region.ready .any ops ls).all (fun i => i == k || i == z) && sB ops zs ((k, q) :: r) (ls.setIfInBounds z true)
      && pureB .any ops q (ls.setIfInBounds k true) && floB ops z zs r (markB q (ls.setIfInBounds k true))
theorem flo_A (hsel : Region.noSelect ops = true) (hQ1 : ∀ c a d v w, R (.panic c) (Act.put a d v) w → R (.panic c) a w) (hQ : ∀ c a d v w, R (.panic c) a w → R (.panic c) (Act.put a d v) w) (hz : ops[z]? = some oz) (hgd : oz.guard = none) (hzz : z ∉ zs)
    (hrun : ∀ (ρ : Operand → Value) (W : World), (execOp ρ oz).run P W = .ok (.value (.pointer (some ⟨W.heap.size, 0, none⟩))) (W.alloc obj)) (tl : List (Nat × List Nat)) : ∀ (ls : Array Bool) (a : Act) (w : World), ClosedL ops ls →
    apB ops oz zs tl = true → floB ops z zs tl ls = true → Q w0 w →
    wpCh P ops R (wpChE P ops R w0.heap.size obj oz.dst (zs.map (ops.getD · default))) (opsL ops tl) a w → wpAnyZ P ops R (fun w' => ∃ m : QW w0, w' = m.val) zs (lenC tl + 1 + zs.length) ls a w := by
  have hzop : ∀ (K : Act → World → Prop) (a : Act) (W : World), K (a.put oz.dst (.pointer (some ⟨W.heap.size, 0, none⟩))) (W.alloc obj) → wpOp P ops R z K a W := by
    intro K a W h
    unfold wpOp
    simp only [hz]
    have hw : Region.wanted oz (yielded ops a.tmps) = true := by simp [Region.wanted, hgd]
    simp only [hw, if_true, Oper.wp, hrun, Oper.upon]
    exact .inl h
  have hzdo : ∀ (tl : List (Nat × List Nat)) (ls : Array Bool) (a : Act) (w : World), ClosedL ops ls → z ∈ Region.ready .any ops ls → apB ops oz zs tl = true → sB ops zs tl (ls.setIfInBounds z true) = true → Q w0 w →
      wpCh P ops R (wpChE P ops R w0.heap.size obj oz.dst (zs.map (ops.getD · default))) (opsL ops tl) a w →
      wpOp P ops R z (fun a' w' => if z ∈ zs then wpAny P .any ops R (lenC tl + zs.length) (ls.setIfInBounds z true) a' w' else (fun w' => ∃ m : QW w0, w' = m.val) w' ∧ wpAnyZ P ops R (fun w' => ∃ m : QW w0, w' = m.val) zs (lenC tl + zs.length) (ls.setIfInBounds z true) a' w') a w := by
    intro tl ls a w inv hzr hap hB h0 h
    refine hzop _ _ _ ?_
    rw [if_neg hzz]
    have hq : Q w (w.alloc obj) := (Q.refl w).alloc _
    exact ⟨⟨⟨_, h0.trans hq⟩, rfl⟩, flo_B hsel hQ1 hQ tl (ls.setIfInBounds z true) a w (w.alloc obj) w.heap.size (inv.set hzr) hap hB h0 hq (MapKept.heap_alloc w _).1 h0.size h⟩
  induction tl with
  | nil =>
    intro ls a w inv hap hB h0 h
    simp only [floB, Bool.and_eq_true, decide_eq_true_eq] at hB
    have e : lenC [] + 1 + zs.length = lenC [] + zs.length + 1 := by omega
    rw [e]
    refine ⟨fun hn => (by rw [hB.1] at hn; cases hn), fun i hi => ?_⟩
    have hi' := hi
    rw [hB.1] at hi
    have e : i = z := by simpa using hi
    subst e
    exact hzdo [] ls a w inv hi' hap hB.2 h0 h
  | cons p r ih =>
    obtain ⟨k, q⟩ := p
    intro ls a w inv hap hB h0 h
    simp only [floB, Bool.and_eq_true] at hB
    obtain ⟨⟨⟨⟨⟨b1, b1z⟩, b2⟩, b4⟩, b5⟩, b7⟩ := hB
    have hap2 : apB ops oz zs r = true := by
      unfold apB at hap ⊢; rw [List.all_cons, Bool.and_eq_true] at hap; exact hap.2
    have hapk : ∀ i ∈ k :: q, i ∉ zs ∧ ∃ o, ops[i]? = some o ∧ oz.apart ops o = true := fun i hi => by
      unfold apB at hap; rw [List.all_cons, Bool.and_eq_true] at hap
      have := List.all_eq_true.1 hap.1 i hi
      simp only [Bool.and_eq_true] at this
      refine ⟨fun e => (by have := this.1; rw [List.contains_iff_mem.2 e] at this; cases this), ?_⟩
      cases ho : ops[i]? with
      | none => rw [ho] at this; exact absurd this.2 (by simp)
      | some o => rw [ho] at this; exact ⟨o, rfl, this.2⟩
    have hne : k ∈ Region.ready .any ops ls := by simpa using b1
    have hze : z ∈ Region.ready .any ops ls := by simpa using b1z
    have e1 : lenC ((k, q) :: r) + 1 + zs.length = (lenC ((k, q) :: r) + zs.length) + 1 := by omega
    rw [e1]
    refine ⟨fun hn => (by rw [hn] at hne; cases hne), fun i hi => ?_⟩
    have hik : i = k ∨ i = z := by simpa using List.all_eq_true.1 b2 i hi
    by_cases hiz : i = z
    · subst hiz
      exact hzdo ((k, q) :: r) ls a w inv hi hap b4 h0 h
    · have e : i = k := hik.resolve_right hiz
      subst e
      obtain ⟨hizs, o, ho, _⟩ := hapk i (by simp)
      have hk : ops.getD i default = o := by simp [Array.getD_eq_getD_getElem?, ho]
      have h2 : wpCh P ops R (wpChE P ops R w0.heap.size obj oz.dst (zs.map (ops.getD · default))) ((o, q.map (ops.getD · default)) :: opsL ops r) a w := by
        have := h
        simp only [opsL, List.map_cons, hk] at this
        exact this
      refine wpOp_of_one ho (h2 w (Q.refl _) _ (fun a' w' hq h' => ?_))
      rw [if_neg hizs]
      have h0w : Q w0 w' := h0.trans hq
      refine ⟨⟨⟨w', h0w⟩, rfl⟩, ?_⟩
      have e3 : lenC ((i, q) :: r) + zs.length = q.length + (lenC r + 1 + zs.length) := by simp [lenC]; omega
      rw [e3]
      refine headZ hsel hQ1 (T := fun _ => True) (fun _ _ => trivial) q (.inr fun _ => trivial) _ w' ⟨⟨w', h0w⟩, rfl⟩ _ _ (inv.set hi) (fun j hj => (hapk j (List.mem_cons_of_mem _ hj)).1) b5 ?_
      exact wpQuiet_mono (fun a'' h'' inv' => ih _ a'' w' inv' hap2 b7 h0w h'') _ _ h'
def sinkR (ops : Array Oper) (y : Nat) : List Nat → Bool
  | [] => true
  | i :: r => (r ++ [y]).any (fun j => Region.waitsFor .any ops j i) && sinkR ops y r
theorem sinkR_all {y : Nat} {ls : Array Bool} (inv : ClosedL ops ls) (hy : y ∈ Region.ready .any ops ls) (qs : List Nat) : (∀ i ∈ qs, i < ops.size) → sinkR ops y qs = true → ∀ i ∈ qs, ls.getD i true = true := by
  induction qs with
  | nil => intro _ _ i hi; cases hi
  | cons a r ih =>
    intro hsz hs i hi
    simp only [sinkR, Bool.and_eq_true] at hs
    have ihr := ih (fun i hi => hsz i (List.mem_cons_of_mem _ hi)) hs.2
    rcases List.mem_cons.1 hi with e | e
    · subst e
      obtain ⟨j, hj, hj2⟩ := List.any_eq_true.1 hs.1
      obtain ⟨oj, hoj, e, he, hb, hon⟩ := Region.waitsFor_spec hj2
      cases hun : ls.getD i true with
      | true => rfl
      | false =>
        exfalso
        rcases List.mem_append.1 hj with hjr | hjy
        · have hjl : ls.getD j false = true := by
            have h1 := ihr j hjr
            have hjs : j < ls.size := by rw [inv.size]; exact hsz j (List.mem_cons_of_mem _ hjr)
            simpa [hjs] using h1
          have h2 := inv.closed j oj hoj hjl e he hb
          rw [hon, getD_both hun] at h2
          cases h2
        · have : j = y := by simpa using hjy
          subst this
          obtain ⟨_, oz, hoz, hall⟩ := mem_ready.1 hy
          have : oj = oz := Option.some.inj (hoj.symm.trans hoz)
          subst this
          have h2 := hall e he hb
          rw [hon, getD_both hun] at h2
          cases h2
    · exact ihr i e
end
theorem wp_flo {P : Program} {id : Nat} {R : Exit → Act → World → Prop} {a : Act} {w : World} {l : List Oper} (hd : List Nat) (tl : List (Nat × List Nat)) (z : Nat) (zs : List Nat) (ws : List (List Nat)) (obj : Obj) (hm : P.follows .mixedOrders = true)
    (hB : (Region.noSelect l.toArray && pureB .any l.toArray hd (Array.replicate l.length false) && floB l.toArray z zs tl (markB hd (Array.replicate l.length false)) && decide (hd.length + (lenC tl + 1 + zs.length) = l.length)
      && hd.all (fun i => !zs.contains i) && !zs.contains z && ((l.getD z default).guard).isNone && decide (z < l.length) && apB l.toArray (l.getD z default) zs tl
      && (zs.zip ws).all (fun p => sinkR l.toArray p.1 p.2 && p.2.all (fun i => decide (i < l.length)) && hd.all fun i => p.2.contains i) && decide (zs.length = ws.length)) = true)
    (hrun : ∀ (ρ : Operand → Value) (W : World), (execOp ρ (l.getD z default)).run P W = .ok (.value (.pointer (some ⟨W.heap.size, 0, none⟩))) (W.alloc obj))
    (h : wpQuiet P l.toArray (fun w' => ∃ m : QW w.drew, w' = m.val) (fun a' => wpCh P l.toArray (NoPanic R) (wpChE P l.toArray (NoPanic R) w.drew.heap.size obj (l.getD z default).dst (zs.map (l.toArray.getD · default))) (opsL l.toArray tl) a' w.drew) (hd.map (l.toArray.getD · default)) a) : (Code.region id l.toArray true).wp P R a w := by
  refine wp_region_noPanic ?_
  simp only [Bool.and_eq_true, decide_eq_true_eq] at hB
  obtain ⟨⟨⟨⟨⟨⟨⟨⟨⟨⟨h1, h2⟩, h3⟩, h4⟩, h5⟩, h6⟩, h7⟩, h8⟩, h9⟩, h10⟩, h11⟩ := hB
  have hn := not_mem_of h5
  have hQ1 : ∀ c a d v w, NoPanic R (.panic c) (Act.put a d v) w → NoPanic R (.panic c) a w := fun _ _ _ _ _ h => h
  have hQ2 : ∀ c a d v w, NoPanic R (.panic c) a w → NoPanic R (.panic c) (Act.put a d v) w := fun _ _ _ _ _ h => h
  have hzs : ∀ i ∈ hd, ∀ ls, ClosedL l.toArray ls → ls.getD i true = false → ∀ y ∈ zs, y ∉ Region.ready .any l.toArray ls := fun i hi ls inv hun y hy hr => by
    obtain ⟨n, hn, rfl⟩ := List.getElem_of_mem hy
    have hn2 : n < ws.length := by omega
    have g := List.all_eq_true.1 h10 (zs[n], ws[n]) (by
      rw [show (zs[n], ws[n]) = (zs.zip ws)[n]'(by rw [List.length_zip]; omega) by simp]
      exact List.getElem_mem _)
    simp only [Bool.and_eq_true] at g
    have hiw : i ∈ ws[n] := by simpa using List.all_eq_true.1 g.2 i hi
    have := sinkR_all inv hr ws[n] (fun j hj => by have := List.all_eq_true.1 g.1.2 j hj; simpa using this) g.1.1 i hiw
    rw [hun] at this; cases this
  have inv0 : ClosedL l.toArray (Array.replicate l.length false) := ⟨by simp, fun j oj hj hl => by
      rw [Array.getD_eq_getD_getElem?] at hl
      by_cases hjl : j < l.length
      · simp [hjl] at hl
      · simp [hjl] at hl⟩
  have hoz : l.toArray[z]? = some (l.getD z default) := by simp [List.getD_eq_getElem?_getD, h8]
  refine wp_region_any hm (wpAny_of_Z (S := fun w' => ∃ m : QW w.drew, w' = m.val) (zs := zs) _ _ _ _ ?_)
  have := headZ (zs := zs) (S := fun w' => ∃ m : QW w.drew, w' = m.val) (T := fun w' => ∃ m : QW w.drew, w' = m.val) h1 hQ1 (fun _ h => h) hd (.inl hzs) (lenC tl + 1 + zs.length) w.drew ⟨⟨w.drew, Q.refl _⟩, rfl⟩ _ a inv0 (fun i hi => hn i hi) h2
    (wpQuiet_mono (fun a' h' inv' => flo_A h1 hQ1 hQ2 hoz (by simpa using h7) (fun e => by rw [List.contains_iff_mem.2 e] at h6; cases h6) hrun tl _ a' w.drew inv' h9 h3 (Q.refl _) h') _ _ h)
  rw [h4] at this
  exact this
end Go.Proofs.YtmmoenbmgcplkaaGreatDoor
set_option linter.unusedVariables false
namespace Go.Proofs.YtmmoenbmgcplkaaGreatDoor
open Go Go.RowKit
section
variable {P : Program} {ops : Array Oper} {R : Exit → Act → World → Prop} {w0 : World} {obj : Obj} {z : Nat} {oz : Oper} {zs : List Nat}
theorem apB_tail {p : Nat × List Nat} {r : List (Nat × List Nat)} (hap : apB ops oz zs (p :: r) = true) : apB ops oz zs r = true := by
  unfold apB at hap ⊢; rw [List.all_cons, Bool.and_eq_true] at hap; exact hap.2
theorem apB_head {k : Nat} {q : List Nat} {r : List (Nat × List Nat)} (hap : apB ops oz zs ((k, q) :: r) = true) : ∀ i ∈ k :: q, i ∉ zs ∧ ∃ o, ops[i]? = some o ∧ oz.apart ops o = true := fun i hi => by
  unfold apB at hap; rw [List.all_cons, Bool.and_eq_true] at hap
  have := List.all_eq_true.1 hap.1 i hi
  simp only [Bool.and_eq_true] at this
  refine ⟨fun e => (by have := this.1; rw [List.contains_iff_mem.2 e] at this; cases this), ?_⟩
  cases ho : ops[i]? with
  | none => rw [ho] at this; exact absurd this.2 (by simp)
  | some o => rw [ho] at this; exact ⟨o, rfl, this.2⟩
theorem step_B (hsel : Region.noSelect ops = true) (hQ1 : ∀ c a d v w, R (.panic c) (Act.put a d v) w → R (.panic c) a w) (hQ : ∀ c a d v w, R (.panic c) a w → R (.panic c) (Act.put a d v) w) (k : Nat) (q : List Nat) (r : List (Nat × List Nat)) (ls : Array Bool) (a : Act) (w W : World) (b : Nat) (inv : ClosedL ops ls)
    (hap : apB ops oz zs ((k, q) :: r) = true) (b3 : pureB .any ops q (ls.setIfInBounds k true) = true) (b4 : sB ops zs r (markB q (ls.setIfInBounds k true)) = true) (h0 : Q w0 w) (hW : Q w W) (hb : W.heap[b]? = some obj) (hN : w0.heap.size ≤ b)
    (h : wpCh P ops R (wpChE P ops R w0.heap.size obj oz.dst (zs.map (ops.getD · default))) (opsL ops ((k, q) :: r)) a w) (hi' : k ∈ Region.ready .any ops ls) :
    wpOp P ops R k (fun a' w' => if k ∈ zs then wpAny P .any ops R (q.length + (lenC r + zs.length)) (ls.setIfInBounds k true) a' w' else (fun w' => ∃ m : QW w0, w' = m.val) w' ∧ wpAnyZ P ops R (fun w' => ∃ m : QW w0, w' = m.val) zs (q.length + (lenC r + zs.length)) (ls.setIfInBounds k true) a' w') (a.put oz.dst (.pointer (some ⟨b, 0, none⟩))) W := by
  have hap2 := apB_tail hap
  have hapk := apB_head hap
  obtain ⟨hizs, o, ho, hapo⟩ := hapk k (by simp)
  have hk : ops.getD k default = o := by simp [Array.getD_eq_getD_getElem?, ho]
  have h2 : wpCh P ops R (wpChE P ops R w0.heap.size obj oz.dst (zs.map (ops.getD · default))) ((o, q.map (ops.getD · default)) :: opsL ops r) a w := by
    have := h
    simp only [opsL, List.map_cons, hk] at this
    exact this
  have h1 : wpOp P ops R k (fun a' w' => Q W w' ∧ wpQuiet P ops (fun _ => True) (fun a'' => wpCh P ops R (wpChE P ops R w0.heap.size obj oz.dst (zs.map (ops.getD · default))) (opsL ops r) a'' w') (q.map (ops.getD · default)) a') a W :=
    wpOp_of_one ho (h2 W hW _ (fun a' w' hq h' => ⟨hq, h'⟩))
  refine wpOp_mono (fun a' w' h' => ?_) (wpOp_set (oz := oz) ho hapo (fun cs b => Region.noSelect_spec hsel k o cs b ho) (fun c a w => hQ c a _ _ w) h1)
  obtain ⟨a1, rfl, hq, hc⟩ := h'
  rw [if_neg hizs]
  have h0w : Q w0 w' := (h0.trans hW).trans hq
  refine ⟨⟨⟨w', h0w⟩, rfl⟩, ?_⟩
  refine headZ hsel hQ1 (T := fun _ => True) (fun _ _ => trivial) q (.inr fun _ => trivial) _ w' ⟨⟨w', h0w⟩, rfl⟩ _ _ (inv.set hi') (fun j hj => (hapk j (List.mem_cons_of_mem _ hj)).1) b3 ?_
  refine wpQuiet_mono (fun a'' h'' inv' => ?_) _ _ (wpQuiet_set (oz := oz) (v := .pointer (some ⟨b, 0, none⟩)) _ a1 (fun o ho => ?_) (fun o ho => ?_) hc)
  · obtain ⟨a2, rfl, h3⟩ := h''
    exact flo_B hsel hQ1 hQ r _ a2 w' w' b inv' hap2 b4 h0w (Q.refl _) (hq.block hb) hN h3
  · obtain ⟨j, hj, rfl⟩ := List.mem_map.1 ho
    obtain ⟨_, o2, ho2, hap3⟩ := hapk j (List.mem_cons_of_mem _ hj)
    have : ops.getD j default = o2 := by simp [Array.getD_eq_getD_getElem?, ho2]
    rw [this]; exact hap3
  · obtain ⟨j, hj, rfl⟩ := List.mem_map.1 ho
    obtain ⟨_, o2, ho2, _⟩ := hapk j (List.mem_cons_of_mem _ hj)
    exact noSel_mem hsel (by rw [ho2]; rfl)
theorem step_A (hsel : Region.noSelect ops = true) (hQ1 : ∀ c a d v w, R (.panic c) (Act.put a d v) w → R (.panic c) a w) (hQ : ∀ c a d v w, R (.panic c) a w → R (.panic c) (Act.put a d v) w) (hz : ops[z]? = some oz) (hgd : oz.guard = none) (hzz : z ∉ zs)
    (hrun : ∀ (ρ : Operand → Value) (W : World), (execOp ρ oz).run P W = .ok (.value (.pointer (some ⟨W.heap.size, 0, none⟩))) (W.alloc obj)) (k : Nat) (q : List Nat) (r : List (Nat × List Nat)) (ls : Array Bool) (a : Act) (w : World) (inv : ClosedL ops ls)
    (hap : apB ops oz zs ((k, q) :: r) = true) (b5 : pureB .any ops q (ls.setIfInBounds k true) = true) (b7 : floB ops z zs r (markB q (ls.setIfInBounds k true)) = true) (h0 : Q w0 w)
    (h : wpCh P ops R (wpChE P ops R w0.heap.size obj oz.dst (zs.map (ops.getD · default))) (opsL ops ((k, q) :: r)) a w) (hi : k ∈ Region.ready .any ops ls) :
    wpOp P ops R k (fun a' w' => if k ∈ zs then wpAny P .any ops R (q.length + (lenC r + 1 + zs.length)) (ls.setIfInBounds k true) a' w' else (fun w' => ∃ m : QW w0, w' = m.val) w' ∧ wpAnyZ P ops R (fun w' => ∃ m : QW w0, w' = m.val) zs (q.length + (lenC r + 1 + zs.length)) (ls.setIfInBounds k true) a' w') a w := by
  have hap2 := apB_tail hap
  have hapk := apB_head hap
  obtain ⟨hizs, o, ho, _⟩ := hapk k (by simp)
  have hk : ops.getD k default = o := by simp [Array.getD_eq_getD_getElem?, ho]
  have h2 : wpCh P ops R (wpChE P ops R w0.heap.size obj oz.dst (zs.map (ops.getD · default))) ((o, q.map (ops.getD · default)) :: opsL ops r) a w := by
    have := h
    simp only [opsL, List.map_cons, hk] at this
    exact this
  refine wpOp_of_one ho (h2 w (Q.refl _) _ (fun a' w' hq h' => ?_))
  rw [if_neg hizs]
  have h0w : Q w0 w' := h0.trans hq
  refine ⟨⟨⟨w', h0w⟩, rfl⟩, ?_⟩
  refine headZ hsel hQ1 (T := fun _ => True) (fun _ _ => trivial) q (.inr fun _ => trivial) _ w' ⟨⟨w', h0w⟩, rfl⟩ _ _ (inv.set hi) (fun j hj => (hapk j (List.mem_cons_of_mem _ hj)).1) b5 ?_
  exact wpQuiet_mono (fun a'' h'' inv' => flo_A hsel hQ1 hQ hz hgd hzz hrun r _ a'' w' inv' hap2 b7 h0w h'') _ _ h'
def twoB (ops : Array Oper) (z : Nat) (zs : List Nat) (x y : Nat) (tl : List (Nat × List Nat)) (ls : Array Bool) : Bool :=
  (Region.ready .any ops ls).all (fun i => i == x || i == y || i == z) && (Region.ready .any ops ls).contains x && (Region.ready .any ops ls).contains y && (Region.ready .any ops ls).contains z && decide (x ≠ z) && decide (y ≠ z)
    && floB ops z zs ((y, []) :: tl) (ls.setIfInBounds x true) && floB ops z zs ((x, []) :: tl) (ls.setIfInBounds y true)
    && (Region.ready .any ops (ls.setIfInBounds z true)).all (fun i => i == x || i == y) && (Region.ready .any ops (ls.setIfInBounds z true)).contains x
    && sB ops zs ((y, []) :: tl) ((ls.setIfInBounds z true).setIfInBounds x true) && sB ops zs ((x, []) :: tl) ((ls.setIfInBounds z true).setIfInBounds y true)
theorem flo_2 (hsel : Region.noSelect ops = true) (hQ1 : ∀ c a d v w, R (.panic c) (Act.put a d v) w → R (.panic c) a w) (hQ : ∀ c a d v w, R (.panic c) a w → R (.panic c) (Act.put a d v) w) (hz : ops[z]? = some oz) (hgd : oz.guard = none) (hzz : z ∉ zs)
    (hrun : ∀ (ρ : Operand → Value) (W : World), (execOp ρ oz).run P W = .ok (.value (.pointer (some ⟨W.heap.size, 0, none⟩))) (W.alloc obj)) (x y : Nat) (tl : List (Nat × List Nat)) (ls : Array Bool) (a : Act) (w : World) (inv : ClosedL ops ls)
    (hap : apB ops oz zs ((x, []) :: (y, []) :: tl) = true) (hB : twoB ops z zs x y tl ls = true) (h0 : Q w0 w)
    (h1 : wpCh P ops R (wpChE P ops R w0.heap.size obj oz.dst (zs.map (ops.getD · default))) (opsL ops ((x, []) :: (y, []) :: tl)) a w)
    (h2 : wpCh P ops R (wpChE P ops R w0.heap.size obj oz.dst (zs.map (ops.getD · default))) (opsL ops ((y, []) :: (x, []) :: tl)) a w) :
    wpAnyZ P ops R (fun w' => ∃ m : QW w0, w' = m.val) zs (lenC ((x, []) :: (y, []) :: tl) + 1 + zs.length) ls a w := by
  simp only [twoB, Bool.and_eq_true, decide_eq_true_eq] at hB
  obtain ⟨⟨⟨⟨⟨⟨⟨⟨⟨⟨⟨c1, c2⟩, c2y⟩, c2z⟩, nx⟩, ny⟩, c3⟩, c4⟩, c5⟩, c6⟩, c7⟩, c8⟩ := hB
  have hapy : apB ops oz zs ((y, []) :: (x, []) :: tl) = true := by
    unfold apB at hap ⊢
    simp only [List.all_cons] at hap ⊢
    rw [← hap]
    ac_rfl
  have hxr : x ∈ Region.ready .any ops ls := by simpa using c2
  have hyr : y ∈ Region.ready .any ops ls := by simpa using c2y
  have hzr : z ∈ Region.ready .any ops ls := by simpa using c2z
  have e1 : lenC ((x, []) :: (y, []) :: tl) + 1 + zs.length = (lenC ((y, []) :: tl) + 1 + zs.length) + 1 := by simp [lenC]; omega
  have e2 : lenC ((y, []) :: tl) + 1 + zs.length = lenC ((x, []) :: tl) + 1 + zs.length := by simp [lenC]
  rw [e1]
  refine ⟨fun hn => (by rw [hn] at hxr; cases hxr), fun i hi => ?_⟩
  have hii : (i = x ∨ i = y) ∨ i = z := by simpa using List.all_eq_true.1 c1 i hi
  rcases hii with (rfl | rfl) | rfl
  · have := step_A hsel hQ1 hQ hz hgd hzz hrun i [] ((y, []) :: tl) ls a w inv hap rfl c3 h0 h1 hi
    simpa using this
  · have := step_A hsel hQ1 hQ hz hgd hzz hrun i [] ((x, []) :: tl) ls a w inv hapy rfl c4 h0 h2 hi
    rw [e2]
    simpa using this
  · -- the alloc first
    have hq : Q w (w.alloc obj) := (Q.refl w).alloc _
    have hzop : ∀ (K : Act → World → Prop), K (a.put oz.dst (.pointer (some ⟨w.heap.size, 0, none⟩))) (w.alloc obj) → wpOp P ops R i K a w := by
      intro K h
      unfold wpOp
      simp only [hz]
      have hw : Region.wanted oz (yielded ops a.tmps) = true := by simp [Region.wanted, hgd]
      simp only [hw, if_true, Oper.wp, hrun, Oper.upon]
      exact .inl h
    refine hzop _ ?_
    rw [if_neg hzz]
    refine ⟨⟨⟨_, h0.trans hq⟩, rfl⟩, ?_⟩
    have inv2 := inv.set hi
    have hb : (w.alloc obj).heap[w.heap.size]? = some obj := (MapKept.heap_alloc w _).1
    have e3 : lenC ((y, []) :: tl) + 1 + zs.length = (lenC ((y, []) :: tl) + zs.length) + 1 := by omega
    have e4 : lenC ((y, []) :: tl) + zs.length = lenC ((x, []) :: tl) + zs.length := by simp [lenC]
    have hxr2 : x ∈ Region.ready .any ops (ls.setIfInBounds i true) := by simpa using c6
    rw [e3]
    refine ⟨fun hn => (by rw [hn] at hxr2; cases hxr2), fun j hj => ?_⟩
    have hjj : j = x ∨ j = y := by simpa using List.all_eq_true.1 c5 j hj
    rcases hjj with rfl | rfl
    · have := step_B hsel hQ1 hQ j [] ((y, []) :: tl) (ls.setIfInBounds i true) a w (w.alloc obj) w.heap.size inv2 hap rfl c7 h0 hq hb h0.size h1 hj
      simpa using this
    · have := step_B hsel hQ1 hQ j [] ((x, []) :: tl) (ls.setIfInBounds i true) a w (w.alloc obj) w.heap.size inv2 hapy rfl c8 h0 hq hb h0.size h2 hj
      rw [e4]
      simpa using this
end
theorem wp_flo2 {P : Program} {id : Nat} {R : Exit → Act → World → Prop} {a : Act} {w : World} {l : List Oper} (hd : List Nat) (x y : Nat) (tl : List (Nat × List Nat)) (z : Nat) (zs : List Nat) (ws : List (List Nat)) (obj : Obj) (hm : P.follows .mixedOrders = true)
    (hB : (Region.noSelect l.toArray && pureB .any l.toArray hd (Array.replicate l.length false) && twoB l.toArray z zs x y tl (markB hd (Array.replicate l.length false)) && decide (hd.length + (lenC ((x, []) :: (y, []) :: tl) + 1 + zs.length) = l.length)
      && hd.all (fun i => !zs.contains i) && !zs.contains z && ((l.getD z default).guard).isNone && decide (z < l.length) && apB l.toArray (l.getD z default) zs ((x, []) :: (y, []) :: tl)
      && (zs.zip ws).all (fun p => sinkR l.toArray p.1 p.2 && p.2.all (fun i => decide (i < l.length)) && hd.all fun i => p.2.contains i) && decide (zs.length = ws.length)) = true)
    (hrun : ∀ (ρ : Operand → Value) (W : World), (execOp ρ (l.getD z default)).run P W = .ok (.value (.pointer (some ⟨W.heap.size, 0, none⟩))) (W.alloc obj))
    (h : wpQuiet P l.toArray (fun w' => ∃ m : QW w.drew, w' = m.val) (fun a' => wpCh P l.toArray (NoPanic R) (wpChE P l.toArray (NoPanic R) w.drew.heap.size obj (l.getD z default).dst (zs.map (l.toArray.getD · default))) (opsL l.toArray ((x, []) :: (y, []) :: tl)) a' w.drew ∧
      wpCh P l.toArray (NoPanic R) (wpChE P l.toArray (NoPanic R) w.drew.heap.size obj (l.getD z default).dst (zs.map (l.toArray.getD · default))) (opsL l.toArray ((y, []) :: (x, []) :: tl)) a' w.drew) (hd.map (l.toArray.getD · default)) a) : (Code.region id l.toArray true).wp P R a w := by
  refine wp_region_noPanic ?_
  simp only [Bool.and_eq_true, decide_eq_true_eq] at hB
  obtain ⟨⟨⟨⟨⟨⟨⟨⟨⟨⟨h1, h2⟩, h3⟩, h4⟩, h5⟩, h6⟩, h7⟩, h8⟩, h9⟩, h10⟩, h11⟩ := hB
  have hn := not_mem_of h5
  have hQ1 : ∀ c a d v w, NoPanic R (.panic c) (Act.put a d v) w → NoPanic R (.panic c) a w := fun _ _ _ _ _ h => h
  have hQ2 : ∀ c a d v w, NoPanic R (.panic c) a w → NoPanic R (.panic c) (Act.put a d v) w := fun _ _ _ _ _ h => h
  have hzs : ∀ i ∈ hd, ∀ ls, ClosedL l.toArray ls → ls.getD i true = false → ∀ y ∈ zs, y ∉ Region.ready .any l.toArray ls := fun i hi ls inv hun y hy hr => by
    obtain ⟨n, hn, rfl⟩ := List.getElem_of_mem hy
    have hn2 : n < ws.length := by omega
    have g := List.all_eq_true.1 h10 (zs[n], ws[n]) (by
      rw [show (zs[n], ws[n]) = (zs.zip ws)[n]'(by rw [List.length_zip]; omega) by simp]
      exact List.getElem_mem _)
    simp only [Bool.and_eq_true] at g
    have hiw : i ∈ ws[n] := by simpa using List.all_eq_true.1 g.2 i hi
    have := sinkR_all inv hr ws[n] (fun j hj => by have := List.all_eq_true.1 g.1.2 j hj; simpa using this) g.1.1 i hiw
    rw [hun] at this; cases this
  have inv0 : ClosedL l.toArray (Array.replicate l.length false) := ⟨by simp, fun j oj hj hl => by
      rw [Array.getD_eq_getD_getElem?] at hl
      by_cases hjl : j < l.length
      · simp [hjl] at hl
      · simp [hjl] at hl⟩
  have hoz : l.toArray[z]? = some (l.getD z default) := by simp [List.getD_eq_getElem?_getD, h8]
  refine wp_region_any hm (wpAny_of_Z (S := fun w' => ∃ m : QW w.drew, w' = m.val) (zs := zs) _ _ _ _ ?_)
  have := headZ (zs := zs) (S := fun w' => ∃ m : QW w.drew, w' = m.val) (T := fun w' => ∃ m : QW w.drew, w' = m.val) h1 hQ1 (fun _ h => h) hd (.inl hzs) (lenC ((x, []) :: (y, []) :: tl) + 1 + zs.length) w.drew ⟨⟨w.drew, Q.refl _⟩, rfl⟩ _ a inv0 (fun i hi => hn i hi) h2
    (wpQuiet_mono (fun a' h' inv' => flo_2 h1 hQ1 hQ2 hoz (by simpa using h7) (fun e => by rw [List.contains_iff_mem.2 e] at h6; cases h6) hrun x y tl _ a' w.drew inv' h9 h3 (Q.refl _) h'.1 h'.2) _ _ h)
  rw [h4] at this
  exact this
end Go.Proofs.YtmmoenbmgcplkaaGreatDoor
