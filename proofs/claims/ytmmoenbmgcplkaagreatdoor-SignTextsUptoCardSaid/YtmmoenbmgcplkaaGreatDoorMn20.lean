/- Texts of this proof, laid into one: Sjk, Sjl, Sjm. -/
import Derived.Test.YtmmoenbmgcplkaaGreatDoorMn19
import Derived.Deep.DeepCutAuto
/- SignBack, walked. -/
set_option linter.unusedVariables false
set_option linter.unusedSimpArgs false
namespace Go.Proofs.YtmmoenbmgcplkaaGreatDoor
open Go Go.RowKit
theorem check_none {r : ReqD} {u : UserD} {now : Int} {rg : List UInt8} {q : ReqD} {c : List UInt8} (h : SignedQ r u now rg q c) (us : List UserD) (at_ : Int) (hf : us.find? (fun v => v.id == u.id) = none) (ht : TimeOk at_) : checkQ q us at_ rg = (zeroU, 73) := by
  have hs := check_signed h q.body us at_ rg
  rw [if_pos ht, if_pos rfl] at hs
  have e : ({ q with body := q.body } : ReqD) = q := rfl
  rw [e] at hs
  rw [hs]
  unfold whoQ
  rw [hf]
theorem check_region {r : ReqD} {u : UserD} {now : Int} {rg rg' : List UInt8} {q : ReqD} {c : List UInt8} (h : SignedQ r u now rg q c) (us : List UserD) (at_ : Int) (hr : rg ≠ rg') (ht : TimeOk at_) : checkQ q us at_ rg' = (zeroU, 72) := by
  have hs := check_signed h q.body us at_ rg'
  rw [if_pos ht, if_neg hr] at hs
  exact hs
theorem check_time {r : ReqD} {u : UserD} {now : Int} {rg : List UInt8} {q : ReqD} {c : List UInt8} (h : SignedQ r u now rg q c) (us : List UserD) (at_ : Int) (ht : ¬ TimeOk at_) : checkQ q us at_ rg = (zeroU, 1) := by
  unfold checkQ
  rw [if_neg ht]
theorem ne_x (l : List UInt8) : l ++ [120] ≠ l := by
  intro e
  have := congrArg List.length e
  simp at this
theorem rq_boxes (w : World) (r : ReqD) (v : Value) : ∃ M W W', w.heap.size = M ∧ w.alloc (.cells (reqV zeroR (.slice none 0 0)).toArray 24) = W ∧ RB W M zeroR (.slice none 0 0) ∧ W.setRow M (reqV r v).toArray = W' ∧ RB W' M r v ∧ Q w W' := by
  refine ⟨w.heap.size, _, _, rfl, rfl, heap_alloc_new w _, rfl, ?_, Q.setRow ((Q.refl w).alloc _) (Nat.le_refl _) _⟩
  exact RB.row (r := zeroR) (v := .slice none 0 0) (heap_alloc_new w _) r v
/-- What stands while it is asked. -/
structure Bk17 (w W : World) (N M : Nat) (u : UserD) (q : ReqD) (A : Option Addr) (L c : Nat) : Prop where
  gr : Q w W
  u : UB W N u
  r : RB W M q (.slice A L c)
  p : PairsAt W A L q.fs
theorem Bk17.go {w W W' : World} {N M : Nat} {u : UserD} {q : ReqD} {A : Option Addr} {L c : Nat} (h : Bk17 w W N M u q A L c) (hq : Q W W') : Bk17 w W' N M u q A L c := ⟨h.gr.trans hq, h.u.q hq, h.r.q hq, h.p.q hq⟩
def lateL : List UInt8 := [108, 97, 116, 101, 114]
def us3 (u : UserD) : List UserD := [⟨[], u.id ++ [120], []⟩, u, ⟨lateL, u.id, []⟩]
def us1 (u : UserD) : List UserD := [⟨[], u.id ++ [120], []⟩]
theorem us3_find (u : UserD) : (us3 u).find? (fun v => v.id == u.id) = some u := by
  unfold us3
  rw [List.find?_cons_of_neg (by simp), List.find?_cons_of_pos (by simp)]
theorem us1_find (u : UserD) : (us1 u).find? (fun v => v.id == u.id) = none := by
  unfold us1
  rw [List.find?_cons_of_neg (by simp)]; rfl
set_option maxRecDepth 100000 in
set_option maxHeartbeats 8000000 in
theorem SignBack_any (r : ReqD) (A : Option Addr) (n c : Nat) (u : UserD) (now off : Int) (rg : List UInt8) (w : World) (hf : PairsAt w A n r.fs) (hc : n ≤ c) (hcap : c ≤ 9223372036854775807) (hl : LawOk r u rg) (wl : -9223372036854775808 ≤ off) (wh : off ≤ 9223372036854775807) (hS : S17 w) :
    Calls Tryz.prog 3 #[.agg (reqC r A n c).toArray, .agg (userC u).toArray, .int .i64 now, .int .i64 off, .string ⟨rg.toArray⟩] w fun e w' => e = .returned (.bool true) ∧ Q w w' := by
  have HEx := Lib.hid (fun W (hq : Q w W) => examples17_any W (hS.q hq))
  have HSi := Lib.hid (fun W (hq : Q w W) => Sign_any r A n c u now rg W (hf.q hq) hc hcap hl.sign (hS.q hq))
  have hidl : u.id.length ≤ 1048577 := hl.id
  have hrgl : rg.length ≤ 1048577 := hl.rl
  obtain ⟨N, w1, hN, e1, hb1, hq1⟩ : ∃ N w1, w.heap.size = N ∧ w.alloc (.cells (reqV r (.slice A n c)).toArray 24) = w1 ∧ RB w1 N r (.slice A n c) ∧ Q w w1 := ⟨_, _, rfl, rfl, RB.new w r _, (Q.refl w).alloc _⟩
  obtain ⟨w2, hN1, e2, hb2, hu2, hq2⟩ : ∃ w2, w1.heap.size = N + 1 ∧ w1.alloc (.cells (userC u).toArray 26) = w2 ∧ RB w2 N r (.slice A n c) ∧ UB w2 (N + 1) u ∧ Q w w2 := by
    have hs1 : w1.heap.size = N + 1 := by rw [← e1, ← hN]; show (w.heap.push _).size = _; simp
    refine ⟨_, hs1, rfl, hb1.q ((Q.refl w1).alloc _), ?_, hq1.alloc _⟩
    rw [← hs1]; exact UB.new w1 u
  obtain ⟨Q0, hQ0⟩ : ∃ x, signQ r u now rg = x := ⟨_, rfl⟩
  rw [hQ0] at HSi
  have HCh : Hid (∀ (q : ReqD) (A' B : Option Addr) (L c' k : Nat) (us : List UserD) (at_ : Int) (rg' : List UInt8) (x : UserD × Int) W, Q0 = some q → Q w W → PairsAt W A' L q.fs → L ≤ c' → c' ≤ 9223372036854775807 → UsersAt W B k us → k ≤ 9 → rg'.length ≤ 1048578 → (∀ v ∈ us, v.sec.length ≤ 1048576) → checkQ q us at_ rg' = x → Calls Tryz.prog 11 #[.agg (reqC q A' L c').toArray, .slice B k k, .int .i64 at_, .string ⟨rg'.toArray⟩] W fun e w' => e = .returned (.tuple #[.agg (userC x.1).toArray, .int .i64 x.2]) ∧ Q W w') := Lib.hid (fun q A' B L c' k us at_ rg' x W hq0 hq hp h1 h2 hu hk hr hus hx => by
    obtain ⟨cc, hsg⟩ := signed_of (hQ0.trans hq0)
    have := Check_any q A' L c' B k k us at_ rg' W hp h1 h2 hu (by omega) (hl.chk hsg q.body (by rw [hsg.e]; exact hl.body) us rg' (by omega) (fun v hv => by have := hus v hv; omega)) (hS.q hq)
    rw [hx] at this; exact this)
  have HPl : Hid (∀ q, Q0 = some q → q.fs.length = r.fs.length + 3 ∧ TimeOk now ∧ (∀ at_, checkQ q (us3 u) at_ rg = if TimeOk at_ then (if 900 < max (now - at_) (at_ - now) then (zeroU, 75) else (u, 0)) else (zeroU, 1)) ∧ checkQ q (us1 u) now rg = (zeroU, 73) ∧ checkQ q [u] now (rg ++ [120]) = (zeroU, 72)) := Lib.hid (fun q hq0 => by
    obtain ⟨cc, hsg⟩ := signed_of (hQ0.trans hq0)
    refine ⟨by rw [hsg.e]; simp, hsg.ok.1, fun at_ => ?_, check_none hsg _ _ (us1_find u) hsg.ok.1, check_region hsg _ _ (Ne.symm (ne_x rg)) hsg.ok.1⟩
    by_cases ht : TimeOk at_
    · rw [if_pos ht, who_back hsg _ _ (us3_find u) ht]
    · rw [if_neg ht, check_time hsg _ _ ht])
  have HSec : Hid (u.sec.length ≤ 1048576) := Lib.hid hl.sec
  have HB := Lib.hid hb2
  have HU := Lib.hid hu2
  have HQ := Lib.hid hq2
  have HOW := Lib.hid wl
  have HOH := Lib.hid wh
  clear hf hS hl hb1 hq1 hb2 hu2 hq2 hQ0 hc hcap
  obtain ⟨m, tg, minor, fs, body, close⟩ := r
  obtain ⟨un, ui, uc⟩ := u
  simp only [reqV, userC] at e1 e2 hidl
  simp only at HPl
  unfold reqC userC
  unfold reqC userC at HSi
  unfold SignPost at HSi
  go_enter Tryz.func3, Tryz.ntmps3
  go_wp2_with fail
  refine (HEx.out _ HQ.out).mono ?_
  rintro e w3 ⟨rfl, hq3⟩
  have HB3 := Lib.hid (HB.out.q hq3)
  have HU3 := Lib.hid (HU.out.q hq3)
  have HQ3 := Lib.hid (HQ.out.trans hq3)
  clear hq3 e1 e2 hN hN1 HB HU HQ HEx
  obtain ⟨b0, b1, b2, b3, b4, b5⟩ := HB3.out.c
  obtain ⟨u0, u1, u2⟩ := HU3.out.c
  simp only at b0 b1 b2 b4 b5 u0 u1 u2
  go_wp2_with fail
  refine (HSi.out _ HQ3.out).mono ?_
  clear b0 b1 b2 b3 b4 b5 u0 u1 u2 HSi HB3
  rcases Q0 with _ | q
  · rintro e w4 ⟨rfl, hq4⟩
    have HQ4 := Lib.hid (HQ3.out.trans hq4)
    clear hq4
    obtain ⟨M, Y1, Y2, hM, hY1, hl1, hY2, hl2, hq2⟩ := rq_boxes w4 zeroR (.slice none 0 0)
    have HQ5 := Lib.hid (HQ4.out.trans hq2)
    have hY1b : w4.alloc (.cells #[.string ⟨#[]⟩, .string ⟨#[]⟩, .int .i64 0, .slice none 0 0, .string ⟨#[]⟩, .bool false] 24) = Y1 := hY1
    clear hl2 hq2
    go_upto_region 3 with (refine wpList_store_row rfl 24 _ _ rfl M (reqV zeroR (.slice none 0 0)).toArray (by rfl) (by rfl) 24 _ hl1 (infoReqS _ _) rfl (reqV_one _ _ _ _) ?_)
    try rw [hY2]
    clear hM hY1 hl1 hY2 hY1b
    go_wp2_with fail
    go_ret
    exact ⟨rfl, HQ5.out⟩
  rintro e w4 ⟨v, rfl, ho, hq4⟩
  obtain ⟨hlen, htn, hx3, hx1, hxr⟩ := HPl.out q rfl
  have hcb := ho
  obtain ⟨A', c', rfl, hc', hp'⟩ := ho.pairs
  have hcap' := hcb.capb'
  obtain ⟨L, hL⟩ : ∃ L, q.fs.length = L := ⟨_, rfl⟩
  rw [hL] at hc' hp' ⊢
  have HQ4 := Lib.hid (HQ3.out.trans hq4)
  have HU4 := Lib.hid (HU3.out.q hq4)
  have HP4 := Lib.hid hp'
  have HX3 := Lib.hid hx3
  have HX1 := Lib.hid hx1
  have HXR := Lib.hid hxr
  clear ho hcb hp' hq4 hL hlen hx3 hx1 hxr HPl HU3
  obtain ⟨M, Y1, Y2, hM, hY1, hl1, hY2, hl2, hq2⟩ := rq_boxes w4 q (.slice A' L c')
  have hY1b : w4.alloc (.cells #[.string ⟨#[]⟩, .string ⟨#[]⟩, .int .i64 0, .slice none 0 0, .string ⟨#[]⟩, .bool false] 24) = Y1 := hY1
  have HX := Lib.hid (show Bk17 w Y2 (N + 1) M ⟨un, ui, uc⟩ q A' L c' from ⟨HQ4.out.trans hq2, HU4.out.q hq2, hl2, HP4.out.q hq2⟩)
  clear hl2 hq2
  go_upto_region 3 with (refine wpList_store_row rfl 24 _ _ rfl M (reqV q (.slice A' L c')).toArray (by rfl) (by rfl) 24 _ hl1 (infoReqS _ _) rfl (reqV_one _ _ _ _) ?_)
  try rw [hY2]
  clear hM hY1 hl1 hY2 hY1b HQ4 HU4 HP4 HQ3
  have hcs : off < -2000 ∨ 2000 < off ∨ (-2000 ≤ off ∧ off ≤ 2000) := by omega
  rcases hcs with h | h | ⟨h1, h2⟩
  · have g1 : decide (off < -2000) = true := by simpa using h
    obtain ⟨o, hoo⟩ : ∃ o, Int.tmod off 2001 = o := ⟨_, rfl⟩
    have hob : -2000 ≤ o ∧ o ≤ 2000 := by
      rw [← hoo]
      rcases Int.le_total 0 off with h | h
      · rw [Int.tmod_eq_emod_of_nonneg h]; omega
      · obtain ⟨k, rfl⟩ : ∃ k : Int, off = -k := ⟨-off, by omega⟩
        rw [Int.neg_tmod, Int.tmod_eq_emod_of_nonneg (by omega)]; omega
    obtain ⟨ho1, ho2⟩ := hob
    go_upto_region 7 with (fail)
    clear hoo g1 h
    obtain ⟨at_, hat⟩ : ∃ x, now + o = x := ⟨_, rfl⟩
    have hab : -3000 ≤ at_ ∧ at_ ≤ 253402303000 := by obtain ⟨h1, h2⟩ := htn; omega
    obtain ⟨ha1, ha2⟩ := hab
    have HAT := Lib.hid hat
    have HTN := Lib.hid htn
    obtain ⟨t1, t2⟩ := htn
    obtain ⟨qm, qt, qi, qf, qb, qc⟩ := q
    obtain ⟨Z7, hZ7⟩ : ∃ W, Y2 = W := ⟨_, rfl⟩
    rw [hZ7] at HX ⊢
    clear hZ7 Y2
    go_upto_region 8 with (fail)
    obtain ⟨b0, b1, b2, b3, b4, b5⟩ := HX.out.r.c
    obtain ⟨u0, u1, u2⟩ := HX.out.u.c
    simp only at b0 b1 b2 b3 b4 b5 u0 u1 u2
    obtain ⟨V8, hV8⟩ : ∃ X, Z7.alloc (.cells ((us3 ⟨un, ui, uc⟩).flatMap userC).toArray 26) = X := ⟨_, rfl⟩
    have hus : UsersAt V8 (some ⟨Z7.heap.size, 0, none⟩) 3 (us3 ⟨un, ui, uc⟩) := by rw [← hV8]; exact UsersAt.lit Z7 _ 3 rfl
    have hqv : Q Z7 V8 := by rw [← hV8]; exact (Q.refl _).alloc _
    have hV8b : Z7.alloc (.cells #[.string ⟨#[]⟩, .string ⟨(ui ++ [120]).toArray⟩, .string ⟨#[]⟩, .string ⟨un.toArray⟩, .string ⟨ui.toArray⟩, .string ⟨uc.toArray⟩, .string ⟨#[108, 97, 116, 101, 114]⟩, .string ⟨ui.toArray⟩, .string ⟨#[]⟩] 26) = V8 := hV8
    obtain ⟨g8, hg8⟩ : ∃ g, Z7.heap.size = g := ⟨_, rfl⟩
    rw [hg8] at hus
    have HX := Lib.hid (HX.out.go hqv)
    have HUS := Lib.hid hus
    clear hus hqv hV8
    obtain ⟨X8, hX8⟩ : ∃ x, checkQ ⟨qm, qt, qi, qf, qb, qc⟩ (us3 ⟨un, ui, uc⟩) at_ rg = x := ⟨_, rfl⟩
    have HC8 := Lib.hid (fun W hq hp hu => HCh.out ⟨qm, qt, qi, qf, qb, qc⟩ A' (some ⟨g8, 0, none⟩) L c' 3 (us3 ⟨un, ui, uc⟩) at_ rg X8 W rfl hq hp hc' hcap' hu (by omega) (by have := hrgl; simp; omega) (fun v hv => by simp only [us3, List.mem_cons, List.not_mem_nil, or_false] at hv; rcases hv with rfl | rfl | rfl <;> first | exact HSec.out | simp) hX8)
    have HX8 := Lib.hid hX8
    clear hX8
    unfold reqC at HC8
    go_wp2_with fail
    refine (HC8.out V8 HX.out.gr HX.out.p HUS.out).mono ?_
    rintro e y8 ⟨rfl, hqy⟩
    have HX := Lib.hid (HX.out.go hqy)
    clear hqy hV8b hg8 b0 b1 b2 b3 b4 b5 u0 u1 u2 HUS HC8
    obtain ⟨M8, Y1, Y2, hM, hY1, hl1, hY2, hl2, hq2⟩ := usr_boxes y8 X8.1
    have hY1b : y8.alloc (.cells #[.string ⟨#[]⟩, .string ⟨#[]⟩, .string ⟨#[]⟩] 26) = Y1 := hY1
    have HX := Lib.hid (HX.out.go hq2)
    have HU8 := Lib.hid hl2
    clear hl2 hq2
    go_upto_region 9 with (refine wpList_store_row rfl 26 _ _ rfl M8 (userC X8.1).toArray (by rfl) (by rfl) 26 _ hl1 (infoUsrS _) rfl (userC_one _) ?_)
    try rw [hY2]
    obtain ⟨Z8, hZ⟩ : ∃ W, Y2 = W := ⟨_, rfl⟩
    rw [hZ] at HX HU8  ⊢
    clear hZ hM hY1 hl1 hY2 hY1b Y1 Y2
    obtain ⟨b0, b1, b2, b3, b4, b5⟩ := HX.out.r.c
    obtain ⟨u0, u1, u2⟩ := HX.out.u.c
    simp only at b0 b1 b2 b3 b4 b5 u0 u1 u2
    obtain ⟨V9, hV9⟩ : ∃ X, Z8.alloc (.cells ((us1 ⟨un, ui, uc⟩).flatMap userC).toArray 26) = X := ⟨_, rfl⟩
    have hus : UsersAt V9 (some ⟨Z8.heap.size, 0, none⟩) 1 (us1 ⟨un, ui, uc⟩) := by rw [← hV9]; exact UsersAt.lit Z8 _ 1 rfl
    have hqv : Q Z8 V9 := by rw [← hV9]; exact (Q.refl _).alloc _
    have hV9b : Z8.alloc (.cells #[.string ⟨#[]⟩, .string ⟨(ui ++ [120]).toArray⟩, .string ⟨#[]⟩] 26) = V9 := hV9
    obtain ⟨g9, hg9⟩ : ∃ g, Z8.heap.size = g := ⟨_, rfl⟩
    rw [hg9] at hus
    have HX := Lib.hid (HX.out.go hqv)
    have HU8 := Lib.hid (HU8.out.q hqv)
    have HUS := Lib.hid hus
    clear hus hqv hV9
    obtain ⟨X9, hX9⟩ : ∃ x, checkQ ⟨qm, qt, qi, qf, qb, qc⟩ (us1 ⟨un, ui, uc⟩) now rg = x := ⟨_, rfl⟩
    have HC9 := Lib.hid (fun W hq hp hu => HCh.out ⟨qm, qt, qi, qf, qb, qc⟩ A' (some ⟨g9, 0, none⟩) L c' 1 (us1 ⟨un, ui, uc⟩) now rg X9 W rfl hq hp hc' hcap' hu (by omega) (by have := hrgl; simp; omega) (fun v hv => by simp only [us1, List.mem_cons, List.not_mem_nil, or_false] at hv; subst hv; first | exact HSec.out | simp) hX9)
    have HX9 := Lib.hid hX9
    clear hX9
    unfold reqC at HC9
    go_wp2_with fail
    refine (HC9.out V9 HX.out.gr HX.out.p HUS.out).mono ?_
    rintro e y9 ⟨rfl, hqy⟩
    have HX := Lib.hid (HX.out.go hqy)
    have HU8 := Lib.hid (HU8.out.q hqy)
    clear hqy hV9b hg9 b0 b1 b2 b3 b4 b5 u0 u1 u2 HUS HC9
    obtain ⟨M9, Y1, Y2, hM, hY1, hl1, hY2, hl2, hq2⟩ := usr_boxes y9 X9.1
    have hY1b : y9.alloc (.cells #[.string ⟨#[]⟩, .string ⟨#[]⟩, .string ⟨#[]⟩] 26) = Y1 := hY1
    have HX := Lib.hid (HX.out.go hq2)
    have HU8 := Lib.hid (HU8.out.q hq2)
    have HU9 := Lib.hid hl2
    clear hl2 hq2
    go_upto_region 10 with (refine wpList_store_row rfl 26 _ _ rfl M9 (userC X9.1).toArray (by rfl) (by rfl) 26 _ hl1 (infoUsrS _) rfl (userC_one _) ?_)
    try rw [hY2]
    obtain ⟨Z9, hZ⟩ : ∃ W, Y2 = W := ⟨_, rfl⟩
    rw [hZ] at HX HU9 HU8 ⊢
    clear hZ hM hY1 hl1 hY2 hY1b Y1 Y2
    obtain ⟨b0, b1, b2, b3, b4, b5⟩ := HX.out.r.c
    obtain ⟨u0, u1, u2⟩ := HX.out.u.c
    simp only at b0 b1 b2 b3 b4 b5 u0 u1 u2
    obtain ⟨V10, hV10⟩ : ∃ X, Z9.alloc (.cells (([⟨un, ui, uc⟩]).flatMap userC).toArray 26) = X := ⟨_, rfl⟩
    have hus : UsersAt V10 (some ⟨Z9.heap.size, 0, none⟩) 1 ([⟨un, ui, uc⟩]) := by rw [← hV10]; exact UsersAt.lit Z9 _ 1 rfl
    have hqv : Q Z9 V10 := by rw [← hV10]; exact (Q.refl _).alloc _
    have hV10b : Z9.alloc (.cells #[.string ⟨un.toArray⟩, .string ⟨ui.toArray⟩, .string ⟨uc.toArray⟩] 26) = V10 := hV10
    obtain ⟨g10, hg10⟩ : ∃ g, Z9.heap.size = g := ⟨_, rfl⟩
    rw [hg10] at hus
    have HX := Lib.hid (HX.out.go hqv)
    have HU8 := Lib.hid (HU8.out.q hqv)
    have HUS := Lib.hid hus
    clear hus hqv hV10
    obtain ⟨X10, hX10⟩ : ∃ x, checkQ ⟨qm, qt, qi, qf, qb, qc⟩ [⟨un, ui, uc⟩] now (rg ++ [120]) = x := ⟨_, rfl⟩
    have HC10 := Lib.hid (fun W hq hp hu => HCh.out ⟨qm, qt, qi, qf, qb, qc⟩ A' (some ⟨g10, 0, none⟩) L c' 1 ([⟨un, ui, uc⟩]) now (rg ++ [120]) X10 W rfl hq hp hc' hcap' hu (by omega) (by have := hrgl; simp; omega) (fun v hv => by simp only [us1, List.mem_cons, List.not_mem_nil, or_false] at hv; subst hv; first | exact HSec.out | simp) hX10)
    have HX10 := Lib.hid hX10
    clear hX10
    unfold reqC at HC10
    go_wp2_with fail
    refine (HC10.out V10 HX.out.gr HX.out.p HUS.out).mono ?_
    rintro e y10 ⟨rfl, hqy⟩
    have HX := Lib.hid (HX.out.go hqy)
    have HU8 := Lib.hid (HU8.out.q hqy)
    clear hqy hV10b hg10 b0 b1 b2 b3 b4 b5 u0 u1 u2 HUS HC10
    obtain ⟨M10, Y1, Y2, hM, hY1, hl1, hY2, hl2, hq2⟩ := usr_boxes y10 X10.1
    have hY1b : y10.alloc (.cells #[.string ⟨#[]⟩, .string ⟨#[]⟩, .string ⟨#[]⟩] 26) = Y1 := hY1
    have HX := Lib.hid (HX.out.go hq2)
    have HU8 := Lib.hid (HU8.out.q hq2)
    have HU10 := Lib.hid hl2
    clear hl2 hq2
    go_upto_region 11 with (refine wpList_store_row rfl 26 _ _ rfl M10 (userC X10.1).toArray (by rfl) (by rfl) 26 _ hl1 (infoUsrS _) rfl (userC_one _) ?_)
    try rw [hY2]
    obtain ⟨Z10, hZ⟩ : ∃ W, Y2 = W := ⟨_, rfl⟩
    rw [hZ] at HX HU10 HU8 ⊢
    clear hZ hM hY1 hl1 hY2 hY1b Y1 Y2
    have HE9 : Hid (X9 = (zeroU, 73)) := Lib.hid (HX9.out.symm.trans HX1.out)
    have HE10 : Hid (X10 = (zeroU, 72)) := Lib.hid (HX10.out.symm.trans HXR.out)
    have HE8 : Hid (X8 = if TimeOk at_ then (if 900 < max (now - at_) (at_ - now) then (zeroU, 75) else (⟨un, ui, uc⟩, 0)) else (zeroU, 1)) := Lib.hid (HX8.out.symm.trans (HX3.out at_))
    obtain ⟨u0, u1, u2⟩ := HX.out.u.c
    simp only at u0 u1 u2
    have e9 := HE9.out
    have e10 := HE10.out
    subst e9
    subst e10
    simp only
    by_cases ht : TimeOk at_
    rotate_left
    · have hv := HE8.out
      rw [if_neg ht] at hv
      subst hv
      have htt : at_ < 0 ∨ 253402300799 < at_ := by unfold TimeOk at ht; omega
      clear ht
      rcases htt with ht | ht
      · have q1 : decide (at_ < 0) = true := by simpa using ht
        clear ht hat
        go_wp2_with fail
        go_ret
        exact ⟨rfl, HX.out.gr⟩
      · have q1 : decide (at_ < 0) = false := by simp; omega
        have q2 : decide ((253402300799 : Int) < at_) = true := by simpa using ht
        clear ht hat
        go_wp2_with fail
        go_ret
        exact ⟨rfl, HX.out.gr⟩
    have hv := HE8.out
    rw [if_pos ht] at hv
    have q1 : decide (at_ < 0) = false := by simp; exact ht.1
    have q2 : decide ((253402300799 : Int) < at_) = false := by simp; exact ht.2
    by_cases h9 : 900 < max (now - at_) (at_ - now)
    · rw [if_pos h9] at hv
      subst hv
      have ho9 : 900 < o ∨ o < -900 := by omega
      obtain ⟨v0, v1, v2⟩ := HU8.out.c
      simp only [zeroU] at v0 v1 v2
      clear h9 ht hat
      rcases ho9 with h | h
      · have q3 : decide (900 < o) = true := by simpa using h
        clear h
        go_wp2_with fail
        go_ret
        exact ⟨rfl, HX.out.gr⟩
      · have q3 : decide (900 < o) = false := by simp; omega
        have q4 : decide (o < -900) = true := by simpa using h
        clear h
        go_wp2_with fail
        go_ret
        exact ⟨rfl, HX.out.gr⟩
    · rw [if_neg h9] at hv
      subst hv
      have q3 : decide (900 < o) = false := by simp; omega
      have q4 : decide (o < -900) = false := by simp; omega
      obtain ⟨v0, v1, v2⟩ := HU8.out.c
      simp only at v0 v1 v2
      clear h9 ht hat
      go_wp2_with fail
      go_ret
      exact ⟨rfl, HX.out.gr⟩
  · have g1 : decide (off < -2000) = false := by simp; omega
    have g2 : decide (2000 < off) = true := by simpa using h
    obtain ⟨o, hoo⟩ : ∃ o, Int.tmod off 2001 = o := ⟨_, rfl⟩
    have hob : -2000 ≤ o ∧ o ≤ 2000 := by
      rw [← hoo]
      rcases Int.le_total 0 off with h | h
      · rw [Int.tmod_eq_emod_of_nonneg h]; omega
      · obtain ⟨k, rfl⟩ : ∃ k : Int, off = -k := ⟨-off, by omega⟩
        rw [Int.neg_tmod, Int.tmod_eq_emod_of_nonneg (by omega)]; omega
    obtain ⟨ho1, ho2⟩ := hob
    go_upto_region 7 with (fail)
    clear hoo g1 g2 h
    obtain ⟨at_, hat⟩ : ∃ x, now + o = x := ⟨_, rfl⟩
    have hab : -3000 ≤ at_ ∧ at_ ≤ 253402303000 := by obtain ⟨h1, h2⟩ := htn; omega
    obtain ⟨ha1, ha2⟩ := hab
    have HAT := Lib.hid hat
    have HTN := Lib.hid htn
    obtain ⟨t1, t2⟩ := htn
    obtain ⟨qm, qt, qi, qf, qb, qc⟩ := q
    obtain ⟨Z7, hZ7⟩ : ∃ W, Y2 = W := ⟨_, rfl⟩
    rw [hZ7] at HX ⊢
    clear hZ7 Y2
    go_upto_region 8 with (fail)
    obtain ⟨b0, b1, b2, b3, b4, b5⟩ := HX.out.r.c
    obtain ⟨u0, u1, u2⟩ := HX.out.u.c
    simp only at b0 b1 b2 b3 b4 b5 u0 u1 u2
    obtain ⟨V8, hV8⟩ : ∃ X, Z7.alloc (.cells ((us3 ⟨un, ui, uc⟩).flatMap userC).toArray 26) = X := ⟨_, rfl⟩
    have hus : UsersAt V8 (some ⟨Z7.heap.size, 0, none⟩) 3 (us3 ⟨un, ui, uc⟩) := by rw [← hV8]; exact UsersAt.lit Z7 _ 3 rfl
    have hqv : Q Z7 V8 := by rw [← hV8]; exact (Q.refl _).alloc _
    have hV8b : Z7.alloc (.cells #[.string ⟨#[]⟩, .string ⟨(ui ++ [120]).toArray⟩, .string ⟨#[]⟩, .string ⟨un.toArray⟩, .string ⟨ui.toArray⟩, .string ⟨uc.toArray⟩, .string ⟨#[108, 97, 116, 101, 114]⟩, .string ⟨ui.toArray⟩, .string ⟨#[]⟩] 26) = V8 := hV8
    obtain ⟨g8, hg8⟩ : ∃ g, Z7.heap.size = g := ⟨_, rfl⟩
    rw [hg8] at hus
    have HX := Lib.hid (HX.out.go hqv)
    have HUS := Lib.hid hus
    clear hus hqv hV8
    obtain ⟨X8, hX8⟩ : ∃ x, checkQ ⟨qm, qt, qi, qf, qb, qc⟩ (us3 ⟨un, ui, uc⟩) at_ rg = x := ⟨_, rfl⟩
    have HC8 := Lib.hid (fun W hq hp hu => HCh.out ⟨qm, qt, qi, qf, qb, qc⟩ A' (some ⟨g8, 0, none⟩) L c' 3 (us3 ⟨un, ui, uc⟩) at_ rg X8 W rfl hq hp hc' hcap' hu (by omega) (by have := hrgl; simp; omega) (fun v hv => by simp only [us3, List.mem_cons, List.not_mem_nil, or_false] at hv; rcases hv with rfl | rfl | rfl <;> first | exact HSec.out | simp) hX8)
    have HX8 := Lib.hid hX8
    clear hX8
    unfold reqC at HC8
    go_wp2_with fail
    refine (HC8.out V8 HX.out.gr HX.out.p HUS.out).mono ?_
    rintro e y8 ⟨rfl, hqy⟩
    have HX := Lib.hid (HX.out.go hqy)
    clear hqy hV8b hg8 b0 b1 b2 b3 b4 b5 u0 u1 u2 HUS HC8
    obtain ⟨M8, Y1, Y2, hM, hY1, hl1, hY2, hl2, hq2⟩ := usr_boxes y8 X8.1
    have hY1b : y8.alloc (.cells #[.string ⟨#[]⟩, .string ⟨#[]⟩, .string ⟨#[]⟩] 26) = Y1 := hY1
    have HX := Lib.hid (HX.out.go hq2)
    have HU8 := Lib.hid hl2
    clear hl2 hq2
    go_upto_region 9 with (refine wpList_store_row rfl 26 _ _ rfl M8 (userC X8.1).toArray (by rfl) (by rfl) 26 _ hl1 (infoUsrS _) rfl (userC_one _) ?_)
    try rw [hY2]
    obtain ⟨Z8, hZ⟩ : ∃ W, Y2 = W := ⟨_, rfl⟩
    rw [hZ] at HX HU8  ⊢
    clear hZ hM hY1 hl1 hY2 hY1b Y1 Y2
    obtain ⟨b0, b1, b2, b3, b4, b5⟩ := HX.out.r.c
    obtain ⟨u0, u1, u2⟩ := HX.out.u.c
    simp only at b0 b1 b2 b3 b4 b5 u0 u1 u2
    obtain ⟨V9, hV9⟩ : ∃ X, Z8.alloc (.cells ((us1 ⟨un, ui, uc⟩).flatMap userC).toArray 26) = X := ⟨_, rfl⟩
    have hus : UsersAt V9 (some ⟨Z8.heap.size, 0, none⟩) 1 (us1 ⟨un, ui, uc⟩) := by rw [← hV9]; exact UsersAt.lit Z8 _ 1 rfl
    have hqv : Q Z8 V9 := by rw [← hV9]; exact (Q.refl _).alloc _
    have hV9b : Z8.alloc (.cells #[.string ⟨#[]⟩, .string ⟨(ui ++ [120]).toArray⟩, .string ⟨#[]⟩] 26) = V9 := hV9
    obtain ⟨g9, hg9⟩ : ∃ g, Z8.heap.size = g := ⟨_, rfl⟩
    rw [hg9] at hus
    have HX := Lib.hid (HX.out.go hqv)
    have HU8 := Lib.hid (HU8.out.q hqv)
    have HUS := Lib.hid hus
    clear hus hqv hV9
    obtain ⟨X9, hX9⟩ : ∃ x, checkQ ⟨qm, qt, qi, qf, qb, qc⟩ (us1 ⟨un, ui, uc⟩) now rg = x := ⟨_, rfl⟩
    have HC9 := Lib.hid (fun W hq hp hu => HCh.out ⟨qm, qt, qi, qf, qb, qc⟩ A' (some ⟨g9, 0, none⟩) L c' 1 (us1 ⟨un, ui, uc⟩) now rg X9 W rfl hq hp hc' hcap' hu (by omega) (by have := hrgl; simp; omega) (fun v hv => by simp only [us1, List.mem_cons, List.not_mem_nil, or_false] at hv; subst hv; first | exact HSec.out | simp) hX9)
    have HX9 := Lib.hid hX9
    clear hX9
    unfold reqC at HC9
    go_wp2_with fail
    refine (HC9.out V9 HX.out.gr HX.out.p HUS.out).mono ?_
    rintro e y9 ⟨rfl, hqy⟩
    have HX := Lib.hid (HX.out.go hqy)
    have HU8 := Lib.hid (HU8.out.q hqy)
    clear hqy hV9b hg9 b0 b1 b2 b3 b4 b5 u0 u1 u2 HUS HC9
    obtain ⟨M9, Y1, Y2, hM, hY1, hl1, hY2, hl2, hq2⟩ := usr_boxes y9 X9.1
    have hY1b : y9.alloc (.cells #[.string ⟨#[]⟩, .string ⟨#[]⟩, .string ⟨#[]⟩] 26) = Y1 := hY1
    have HX := Lib.hid (HX.out.go hq2)
    have HU8 := Lib.hid (HU8.out.q hq2)
    have HU9 := Lib.hid hl2
    clear hl2 hq2
    go_upto_region 10 with (refine wpList_store_row rfl 26 _ _ rfl M9 (userC X9.1).toArray (by rfl) (by rfl) 26 _ hl1 (infoUsrS _) rfl (userC_one _) ?_)
    try rw [hY2]
    obtain ⟨Z9, hZ⟩ : ∃ W, Y2 = W := ⟨_, rfl⟩
    rw [hZ] at HX HU9 HU8 ⊢
    clear hZ hM hY1 hl1 hY2 hY1b Y1 Y2
    obtain ⟨b0, b1, b2, b3, b4, b5⟩ := HX.out.r.c
    obtain ⟨u0, u1, u2⟩ := HX.out.u.c
    simp only at b0 b1 b2 b3 b4 b5 u0 u1 u2
    obtain ⟨V10, hV10⟩ : ∃ X, Z9.alloc (.cells (([⟨un, ui, uc⟩]).flatMap userC).toArray 26) = X := ⟨_, rfl⟩
    have hus : UsersAt V10 (some ⟨Z9.heap.size, 0, none⟩) 1 ([⟨un, ui, uc⟩]) := by rw [← hV10]; exact UsersAt.lit Z9 _ 1 rfl
    have hqv : Q Z9 V10 := by rw [← hV10]; exact (Q.refl _).alloc _
    have hV10b : Z9.alloc (.cells #[.string ⟨un.toArray⟩, .string ⟨ui.toArray⟩, .string ⟨uc.toArray⟩] 26) = V10 := hV10
    obtain ⟨g10, hg10⟩ : ∃ g, Z9.heap.size = g := ⟨_, rfl⟩
    rw [hg10] at hus
    have HX := Lib.hid (HX.out.go hqv)
    have HU8 := Lib.hid (HU8.out.q hqv)
    have HUS := Lib.hid hus
    clear hus hqv hV10
    obtain ⟨X10, hX10⟩ : ∃ x, checkQ ⟨qm, qt, qi, qf, qb, qc⟩ [⟨un, ui, uc⟩] now (rg ++ [120]) = x := ⟨_, rfl⟩
    have HC10 := Lib.hid (fun W hq hp hu => HCh.out ⟨qm, qt, qi, qf, qb, qc⟩ A' (some ⟨g10, 0, none⟩) L c' 1 ([⟨un, ui, uc⟩]) now (rg ++ [120]) X10 W rfl hq hp hc' hcap' hu (by omega) (by have := hrgl; simp; omega) (fun v hv => by simp only [us1, List.mem_cons, List.not_mem_nil, or_false] at hv; subst hv; first | exact HSec.out | simp) hX10)
    have HX10 := Lib.hid hX10
    clear hX10
    unfold reqC at HC10
    go_wp2_with fail
    refine (HC10.out V10 HX.out.gr HX.out.p HUS.out).mono ?_
    rintro e y10 ⟨rfl, hqy⟩
    have HX := Lib.hid (HX.out.go hqy)
    have HU8 := Lib.hid (HU8.out.q hqy)
    clear hqy hV10b hg10 b0 b1 b2 b3 b4 b5 u0 u1 u2 HUS HC10
    obtain ⟨M10, Y1, Y2, hM, hY1, hl1, hY2, hl2, hq2⟩ := usr_boxes y10 X10.1
    have hY1b : y10.alloc (.cells #[.string ⟨#[]⟩, .string ⟨#[]⟩, .string ⟨#[]⟩] 26) = Y1 := hY1
    have HX := Lib.hid (HX.out.go hq2)
    have HU8 := Lib.hid (HU8.out.q hq2)
    have HU10 := Lib.hid hl2
    clear hl2 hq2
    go_upto_region 11 with (refine wpList_store_row rfl 26 _ _ rfl M10 (userC X10.1).toArray (by rfl) (by rfl) 26 _ hl1 (infoUsrS _) rfl (userC_one _) ?_)
    try rw [hY2]
    obtain ⟨Z10, hZ⟩ : ∃ W, Y2 = W := ⟨_, rfl⟩
    rw [hZ] at HX HU10 HU8 ⊢
    clear hZ hM hY1 hl1 hY2 hY1b Y1 Y2
    have HE9 : Hid (X9 = (zeroU, 73)) := Lib.hid (HX9.out.symm.trans HX1.out)
    have HE10 : Hid (X10 = (zeroU, 72)) := Lib.hid (HX10.out.symm.trans HXR.out)
    have HE8 : Hid (X8 = if TimeOk at_ then (if 900 < max (now - at_) (at_ - now) then (zeroU, 75) else (⟨un, ui, uc⟩, 0)) else (zeroU, 1)) := Lib.hid (HX8.out.symm.trans (HX3.out at_))
    obtain ⟨u0, u1, u2⟩ := HX.out.u.c
    simp only at u0 u1 u2
    have e9 := HE9.out
    have e10 := HE10.out
    subst e9
    subst e10
    simp only
    by_cases ht : TimeOk at_
    rotate_left
    · have hv := HE8.out
      rw [if_neg ht] at hv
      subst hv
      have htt : at_ < 0 ∨ 253402300799 < at_ := by unfold TimeOk at ht; omega
      clear ht
      rcases htt with ht | ht
      · have q1 : decide (at_ < 0) = true := by simpa using ht
        clear ht hat
        go_wp2_with fail
        go_ret
        exact ⟨rfl, HX.out.gr⟩
      · have q1 : decide (at_ < 0) = false := by simp; omega
        have q2 : decide ((253402300799 : Int) < at_) = true := by simpa using ht
        clear ht hat
        go_wp2_with fail
        go_ret
        exact ⟨rfl, HX.out.gr⟩
    have hv := HE8.out
    rw [if_pos ht] at hv
    have q1 : decide (at_ < 0) = false := by simp; exact ht.1
    have q2 : decide ((253402300799 : Int) < at_) = false := by simp; exact ht.2
    by_cases h9 : 900 < max (now - at_) (at_ - now)
    · rw [if_pos h9] at hv
      subst hv
      have ho9 : 900 < o ∨ o < -900 := by omega
      obtain ⟨v0, v1, v2⟩ := HU8.out.c
      simp only [zeroU] at v0 v1 v2
      clear h9 ht hat
      rcases ho9 with h | h
      · have q3 : decide (900 < o) = true := by simpa using h
        clear h
        go_wp2_with fail
        go_ret
        exact ⟨rfl, HX.out.gr⟩
      · have q3 : decide (900 < o) = false := by simp; omega
        have q4 : decide (o < -900) = true := by simpa using h
        clear h
        go_wp2_with fail
        go_ret
        exact ⟨rfl, HX.out.gr⟩
    · rw [if_neg h9] at hv
      subst hv
      have q3 : decide (900 < o) = false := by simp; omega
      have q4 : decide (o < -900) = false := by simp; omega
      obtain ⟨v0, v1, v2⟩ := HU8.out.c
      simp only at v0 v1 v2
      clear h9 ht hat
      go_wp2_with fail
      go_ret
      exact ⟨rfl, HX.out.gr⟩
  · have g1 : decide (off < -2000) = false := by simp; omega
    have g2 : decide (2000 < off) = false := by simp; omega
    obtain ⟨o, hoo⟩ : ∃ o, off = o := ⟨_, rfl⟩
    subst hoo
    have ho1 := h1
    have ho2 := h2
    go_upto_region 7 with (fail)
    clear g1 g2 h1 h2
    obtain ⟨at_, hat⟩ : ∃ x, now + off = x := ⟨_, rfl⟩
    have hab : -3000 ≤ at_ ∧ at_ ≤ 253402303000 := by obtain ⟨h1, h2⟩ := htn; omega
    obtain ⟨ha1, ha2⟩ := hab
    have HAT := Lib.hid hat
    have HTN := Lib.hid htn
    obtain ⟨t1, t2⟩ := htn
    obtain ⟨qm, qt, qi, qf, qb, qc⟩ := q
    obtain ⟨Z7, hZ7⟩ : ∃ W, Y2 = W := ⟨_, rfl⟩
    rw [hZ7] at HX ⊢
    clear hZ7 Y2
    go_upto_region 8 with (fail)
    obtain ⟨b0, b1, b2, b3, b4, b5⟩ := HX.out.r.c
    obtain ⟨u0, u1, u2⟩ := HX.out.u.c
    simp only at b0 b1 b2 b3 b4 b5 u0 u1 u2
    obtain ⟨V8, hV8⟩ : ∃ X, Z7.alloc (.cells ((us3 ⟨un, ui, uc⟩).flatMap userC).toArray 26) = X := ⟨_, rfl⟩
    have hus : UsersAt V8 (some ⟨Z7.heap.size, 0, none⟩) 3 (us3 ⟨un, ui, uc⟩) := by rw [← hV8]; exact UsersAt.lit Z7 _ 3 rfl
    have hqv : Q Z7 V8 := by rw [← hV8]; exact (Q.refl _).alloc _
    have hV8b : Z7.alloc (.cells #[.string ⟨#[]⟩, .string ⟨(ui ++ [120]).toArray⟩, .string ⟨#[]⟩, .string ⟨un.toArray⟩, .string ⟨ui.toArray⟩, .string ⟨uc.toArray⟩, .string ⟨#[108, 97, 116, 101, 114]⟩, .string ⟨ui.toArray⟩, .string ⟨#[]⟩] 26) = V8 := hV8
    obtain ⟨g8, hg8⟩ : ∃ g, Z7.heap.size = g := ⟨_, rfl⟩
    rw [hg8] at hus
    have HX := Lib.hid (HX.out.go hqv)
    have HUS := Lib.hid hus
    clear hus hqv hV8
    obtain ⟨X8, hX8⟩ : ∃ x, checkQ ⟨qm, qt, qi, qf, qb, qc⟩ (us3 ⟨un, ui, uc⟩) at_ rg = x := ⟨_, rfl⟩
    have HC8 := Lib.hid (fun W hq hp hu => HCh.out ⟨qm, qt, qi, qf, qb, qc⟩ A' (some ⟨g8, 0, none⟩) L c' 3 (us3 ⟨un, ui, uc⟩) at_ rg X8 W rfl hq hp hc' hcap' hu (by omega) (by have := hrgl; simp; omega) (fun v hv => by simp only [us3, List.mem_cons, List.not_mem_nil, or_false] at hv; rcases hv with rfl | rfl | rfl <;> first | exact HSec.out | simp) hX8)
    have HX8 := Lib.hid hX8
    clear hX8
    unfold reqC at HC8
    go_wp2_with fail
    refine (HC8.out V8 HX.out.gr HX.out.p HUS.out).mono ?_
    rintro e y8 ⟨rfl, hqy⟩
    have HX := Lib.hid (HX.out.go hqy)
    clear hqy hV8b hg8 b0 b1 b2 b3 b4 b5 u0 u1 u2 HUS HC8
    obtain ⟨M8, Y1, Y2, hM, hY1, hl1, hY2, hl2, hq2⟩ := usr_boxes y8 X8.1
    have hY1b : y8.alloc (.cells #[.string ⟨#[]⟩, .string ⟨#[]⟩, .string ⟨#[]⟩] 26) = Y1 := hY1
    have HX := Lib.hid (HX.out.go hq2)
    have HU8 := Lib.hid hl2
    clear hl2 hq2
    go_upto_region 9 with (refine wpList_store_row rfl 26 _ _ rfl M8 (userC X8.1).toArray (by rfl) (by rfl) 26 _ hl1 (infoUsrS _) rfl (userC_one _) ?_)
    try rw [hY2]
    obtain ⟨Z8, hZ⟩ : ∃ W, Y2 = W := ⟨_, rfl⟩
    rw [hZ] at HX HU8  ⊢
    clear hZ hM hY1 hl1 hY2 hY1b Y1 Y2
    obtain ⟨b0, b1, b2, b3, b4, b5⟩ := HX.out.r.c
    obtain ⟨u0, u1, u2⟩ := HX.out.u.c
    simp only at b0 b1 b2 b3 b4 b5 u0 u1 u2
    obtain ⟨V9, hV9⟩ : ∃ X, Z8.alloc (.cells ((us1 ⟨un, ui, uc⟩).flatMap userC).toArray 26) = X := ⟨_, rfl⟩
    have hus : UsersAt V9 (some ⟨Z8.heap.size, 0, none⟩) 1 (us1 ⟨un, ui, uc⟩) := by rw [← hV9]; exact UsersAt.lit Z8 _ 1 rfl
    have hqv : Q Z8 V9 := by rw [← hV9]; exact (Q.refl _).alloc _
    have hV9b : Z8.alloc (.cells #[.string ⟨#[]⟩, .string ⟨(ui ++ [120]).toArray⟩, .string ⟨#[]⟩] 26) = V9 := hV9
    obtain ⟨g9, hg9⟩ : ∃ g, Z8.heap.size = g := ⟨_, rfl⟩
    rw [hg9] at hus
    have HX := Lib.hid (HX.out.go hqv)
    have HU8 := Lib.hid (HU8.out.q hqv)
    have HUS := Lib.hid hus
    clear hus hqv hV9
    obtain ⟨X9, hX9⟩ : ∃ x, checkQ ⟨qm, qt, qi, qf, qb, qc⟩ (us1 ⟨un, ui, uc⟩) now rg = x := ⟨_, rfl⟩
    have HC9 := Lib.hid (fun W hq hp hu => HCh.out ⟨qm, qt, qi, qf, qb, qc⟩ A' (some ⟨g9, 0, none⟩) L c' 1 (us1 ⟨un, ui, uc⟩) now rg X9 W rfl hq hp hc' hcap' hu (by omega) (by have := hrgl; simp; omega) (fun v hv => by simp only [us1, List.mem_cons, List.not_mem_nil, or_false] at hv; subst hv; first | exact HSec.out | simp) hX9)
    have HX9 := Lib.hid hX9
    clear hX9
    unfold reqC at HC9
    go_wp2_with fail
    refine (HC9.out V9 HX.out.gr HX.out.p HUS.out).mono ?_
    rintro e y9 ⟨rfl, hqy⟩
    have HX := Lib.hid (HX.out.go hqy)
    have HU8 := Lib.hid (HU8.out.q hqy)
    clear hqy hV9b hg9 b0 b1 b2 b3 b4 b5 u0 u1 u2 HUS HC9
    obtain ⟨M9, Y1, Y2, hM, hY1, hl1, hY2, hl2, hq2⟩ := usr_boxes y9 X9.1
    have hY1b : y9.alloc (.cells #[.string ⟨#[]⟩, .string ⟨#[]⟩, .string ⟨#[]⟩] 26) = Y1 := hY1
    have HX := Lib.hid (HX.out.go hq2)
    have HU8 := Lib.hid (HU8.out.q hq2)
    have HU9 := Lib.hid hl2
    clear hl2 hq2
    go_upto_region 10 with (refine wpList_store_row rfl 26 _ _ rfl M9 (userC X9.1).toArray (by rfl) (by rfl) 26 _ hl1 (infoUsrS _) rfl (userC_one _) ?_)
    try rw [hY2]
    obtain ⟨Z9, hZ⟩ : ∃ W, Y2 = W := ⟨_, rfl⟩
    rw [hZ] at HX HU9 HU8 ⊢
    clear hZ hM hY1 hl1 hY2 hY1b Y1 Y2
    obtain ⟨b0, b1, b2, b3, b4, b5⟩ := HX.out.r.c
    obtain ⟨u0, u1, u2⟩ := HX.out.u.c
    simp only at b0 b1 b2 b3 b4 b5 u0 u1 u2
    obtain ⟨V10, hV10⟩ : ∃ X, Z9.alloc (.cells (([⟨un, ui, uc⟩]).flatMap userC).toArray 26) = X := ⟨_, rfl⟩
    have hus : UsersAt V10 (some ⟨Z9.heap.size, 0, none⟩) 1 ([⟨un, ui, uc⟩]) := by rw [← hV10]; exact UsersAt.lit Z9 _ 1 rfl
    have hqv : Q Z9 V10 := by rw [← hV10]; exact (Q.refl _).alloc _
    have hV10b : Z9.alloc (.cells #[.string ⟨un.toArray⟩, .string ⟨ui.toArray⟩, .string ⟨uc.toArray⟩] 26) = V10 := hV10
    obtain ⟨g10, hg10⟩ : ∃ g, Z9.heap.size = g := ⟨_, rfl⟩
    rw [hg10] at hus
    have HX := Lib.hid (HX.out.go hqv)
    have HU8 := Lib.hid (HU8.out.q hqv)
    have HUS := Lib.hid hus
    clear hus hqv hV10
    obtain ⟨X10, hX10⟩ : ∃ x, checkQ ⟨qm, qt, qi, qf, qb, qc⟩ [⟨un, ui, uc⟩] now (rg ++ [120]) = x := ⟨_, rfl⟩
    have HC10 := Lib.hid (fun W hq hp hu => HCh.out ⟨qm, qt, qi, qf, qb, qc⟩ A' (some ⟨g10, 0, none⟩) L c' 1 ([⟨un, ui, uc⟩]) now (rg ++ [120]) X10 W rfl hq hp hc' hcap' hu (by omega) (by have := hrgl; simp; omega) (fun v hv => by simp only [us1, List.mem_cons, List.not_mem_nil, or_false] at hv; subst hv; first | exact HSec.out | simp) hX10)
    have HX10 := Lib.hid hX10
    clear hX10
    unfold reqC at HC10
    go_wp2_with fail
    refine (HC10.out V10 HX.out.gr HX.out.p HUS.out).mono ?_
    rintro e y10 ⟨rfl, hqy⟩
    have HX := Lib.hid (HX.out.go hqy)
    have HU8 := Lib.hid (HU8.out.q hqy)
    clear hqy hV10b hg10 b0 b1 b2 b3 b4 b5 u0 u1 u2 HUS HC10
    obtain ⟨M10, Y1, Y2, hM, hY1, hl1, hY2, hl2, hq2⟩ := usr_boxes y10 X10.1
    have hY1b : y10.alloc (.cells #[.string ⟨#[]⟩, .string ⟨#[]⟩, .string ⟨#[]⟩] 26) = Y1 := hY1
    have HX := Lib.hid (HX.out.go hq2)
    have HU8 := Lib.hid (HU8.out.q hq2)
    have HU10 := Lib.hid hl2
    clear hl2 hq2
    go_upto_region 11 with (refine wpList_store_row rfl 26 _ _ rfl M10 (userC X10.1).toArray (by rfl) (by rfl) 26 _ hl1 (infoUsrS _) rfl (userC_one _) ?_)
    try rw [hY2]
    obtain ⟨Z10, hZ⟩ : ∃ W, Y2 = W := ⟨_, rfl⟩
    rw [hZ] at HX HU10 HU8 ⊢
    clear hZ hM hY1 hl1 hY2 hY1b Y1 Y2
    have HE9 : Hid (X9 = (zeroU, 73)) := Lib.hid (HX9.out.symm.trans HX1.out)
    have HE10 : Hid (X10 = (zeroU, 72)) := Lib.hid (HX10.out.symm.trans HXR.out)
    have HE8 : Hid (X8 = if TimeOk at_ then (if 900 < max (now - at_) (at_ - now) then (zeroU, 75) else (⟨un, ui, uc⟩, 0)) else (zeroU, 1)) := Lib.hid (HX8.out.symm.trans (HX3.out at_))
    obtain ⟨u0, u1, u2⟩ := HX.out.u.c
    simp only at u0 u1 u2
    have e9 := HE9.out
    have e10 := HE10.out
    subst e9
    subst e10
    simp only
    by_cases ht : TimeOk at_
    rotate_left
    · have hv := HE8.out
      rw [if_neg ht] at hv
      subst hv
      have htt : at_ < 0 ∨ 253402300799 < at_ := by unfold TimeOk at ht; omega
      clear ht
      rcases htt with ht | ht
      · have q1 : decide (at_ < 0) = true := by simpa using ht
        clear ht hat
        go_wp2_with fail
        go_ret
        exact ⟨rfl, HX.out.gr⟩
      · have q1 : decide (at_ < 0) = false := by simp; omega
        have q2 : decide ((253402300799 : Int) < at_) = true := by simpa using ht
        clear ht hat
        go_wp2_with fail
        go_ret
        exact ⟨rfl, HX.out.gr⟩
    have hv := HE8.out
    rw [if_pos ht] at hv
    have q1 : decide (at_ < 0) = false := by simp; exact ht.1
    have q2 : decide ((253402300799 : Int) < at_) = false := by simp; exact ht.2
    by_cases h9 : 900 < max (now - at_) (at_ - now)
    · rw [if_pos h9] at hv
      subst hv
      have ho9 : 900 < off ∨ off < -900 := by omega
      obtain ⟨v0, v1, v2⟩ := HU8.out.c
      simp only [zeroU] at v0 v1 v2
      clear h9 ht hat
      rcases ho9 with h | h
      · have q3 : decide (900 < off) = true := by simpa using h
        clear h
        go_wp2_with fail
        go_ret
        exact ⟨rfl, HX.out.gr⟩
      · have q3 : decide (900 < off) = false := by simp; omega
        have q4 : decide (off < -900) = true := by simpa using h
        clear h
        go_wp2_with fail
        go_ret
        exact ⟨rfl, HX.out.gr⟩
    · rw [if_neg h9] at hv
      subst hv
      have q3 : decide (900 < off) = false := by simp; omega
      have q4 : decide (off < -900) = false := by simp; omega
      obtain ⟨v0, v1, v2⟩ := HU8.out.c
      simp only at v0 v1 v2
      clear h9 ht hat
      go_wp2_with fail
      go_ret
      exact ⟨rfl, HX.out.gr⟩
end Go.Proofs.YtmmoenbmgcplkaaGreatDoor
/- SignBody, walked. -/
set_option linter.unusedVariables false
set_option linter.unusedSimpArgs false
namespace Go.Proofs.YtmmoenbmgcplkaaGreatDoor
open Go Go.RowKit
theorem check_secret {r : ReqD} {u : UserD} {now : Int} {rg : List UInt8} {q : ReqD} {c : List UInt8} (h : SignedQ r u now rg q c) (sec : List UInt8) :
    ((checkQ q [{ u with sec := sec }] now rg).2 = 0 ∨ (checkQ q [{ u with sec := sec }] now rg).2 = 74) ∧ (sec = u.sec → (checkQ q [{ u with sec := sec }] now rg).2 = 0) := by
  have ht := h.ok.1
  have hs := check_signed h q.body [{ u with sec := sec }] now rg
  rw [if_pos ht, if_pos rfl] at hs
  have e : ({ q with body := q.body } : ReqD) = q := rfl
  rw [e] at hs
  rw [hs]
  unfold whoQ
  have hf : [({ u with sec := sec } : UserD)].find? (fun v => v.id == u.id) = some { u with sec := sec } := by simp
  rw [hf]
  simp only
  have h9 : ¬ 900 < max (now - now) (now - now) := by omega
  rw [if_neg h9]
  have hsum : ¬ ((fieldL q.fs bodySumL).getD [] ≠ unsignedL ∧ (fieldL q.fs bodySumL).getD [] ≠ hexL (sha q.body)) := by
    rintro ⟨_, h2⟩
    apply h2
    rw [h.sum, Option.getD_some, h.e]
  by_cases hg : sigL sec (stampL now) rg c = sigL u.sec (stampL now) rg c
  · rw [if_neg (not_not_intro hg), if_neg hsum]
    exact ⟨.inl rfl, fun _ => rfl⟩
  · rw [if_pos hg]
    exact ⟨.inr rfl, fun hh => absurd (by rw [hh]) hg⟩
theorem check_body {r : ReqD} {u : UserD} {now : Int} {rg : List UInt8} {q : ReqD} {c : List UInt8} (h : SignedQ r u now rg q c) (body : List UInt8) :
    ((checkQ { q with body := body } [u] now rg).2 = 0 ∨ (checkQ { q with body := body } [u] now rg).2 = 76) ∧ (body = r.body → (checkQ { q with body := body } [u] now rg).2 = 0) := by
  have ht := h.ok.1
  have hs := check_signed h body [u] now rg
  rw [if_pos ht, if_pos rfl] at hs
  rw [hs]
  unfold whoQ
  have hf : [u].find? (fun v => v.id == u.id) = some u := by simp
  rw [hf]
  simp only
  have h9 : ¬ 900 < max (now - now) (now - now) := by omega
  rw [if_neg h9, if_neg (not_not_intro rfl)]
  by_cases hb : (fieldL q.fs bodySumL).getD [] ≠ unsignedL ∧ (fieldL q.fs bodySumL).getD [] ≠ hexL (sha body)
  · rw [if_pos hb]
    refine ⟨.inr rfl, fun hh => ?_⟩
    exfalso
    apply hb.2
    rw [h.sum, Option.getD_some, hh]
  · rw [if_neg hb]
    exact ⟨.inl rfl, fun _ => rfl⟩
theorem RB.setBody {w : World} {b : Nat} {r : ReqD} {v : Value} (h : RB w b r v) (x : List UInt8) : RB (w.setCell ⟨b, 4, none⟩ (.string ⟨x.toArray⟩)) b { r with body := x } v := by
  unfold RB; rw [heap_setCell_any w b 4 _ _ _ _ h]; rfl
theorem UB.setSec {w : World} {b : Nat} {u : UserD} (h : UB w b u) (x : List UInt8) : UB (w.setCell ⟨b, 2, none⟩ (.string ⟨x.toArray⟩)) b { u with sec := x } := by
  unfold UB; rw [heap_setCell_any w b 2 _ _ _ _ h]; rfl
theorem PairsAt.setC {w : World} {A : Option Addr} {n : Nat} {ps : List PairD} (h : PairsAt w A n ps) (b i : Nat) (x : Value) (hne : ∀ g off, A = some ⟨g, off, none⟩ → 0 < n → g ≠ b) : PairsAt (w.setCell ⟨b, i, none⟩ x) A n ps := by
  have hg : GX [b] w (w.setCell ⟨b, i, none⟩ x) := (GX.refl _ w).set (by simp) _ _
  refine ⟨h.1, fun h0 => ?_⟩
  obtain ⟨g, off, e, hlt, hc⟩ := h.2 h0
  refine ⟨g, off, e, Nat.lt_of_lt_of_le hlt hg.size, fun j hj k v hv => ?_⟩
  have hcc := hc j hj k v hv
  have := hg.block g hlt (by simpa using hne g off e h0)
  unfold World.cell? at hcc ⊢
  rw [this]; exact hcc
/-- What stands while it is asked. -/
structure By17 (w W : World) (N M : Nat) (r : ReqD) (v : Value) (u : UserD) (q : ReqD) (A : Option Addr) (L c : Nat) : Prop where
  gr : Q w W
  s : RB W N r v
  u : UB W (N + 1) u
  r : RB W M q (.slice A L c)
  p : PairsAt W A L q.fs
theorem By17.go {w W W' : World} {N M : Nat} {r : ReqD} {v : Value} {u : UserD} {q : ReqD} {A : Option Addr} {L c : Nat} (h : By17 w W N M r v u q A L c) (hq : Q W W') : By17 w W' N M r v u q A L c := ⟨h.gr.trans hq, h.s.q hq, h.u.q hq, h.r.q hq, h.p.q hq⟩
set_option maxRecDepth 100000 in
set_option maxHeartbeats 8000000 in
theorem SignBody_any (r : ReqD) (A : Option Addr) (n c : Nat) (u : UserD) (nb ns : List UInt8) (w : World) (hf : PairsAt w A n r.fs) (hc : n ≤ c) (hcap : c ≤ 9223372036854775807) (hl : LawOk r u [114]) (hnb : nb.length ≤ 1048576) (hns : ns.length ≤ 1048576) (hS : S17 w) :
    Calls Tryz.prog 4 #[.agg (reqC r A n c).toArray, .agg (userC u).toArray, .string ⟨nb.toArray⟩, .string ⟨ns.toArray⟩] w fun e w' => e = .returned (.bool true) ∧ Q w w' := by
  have HEx := Lib.hid (fun W (hq : Q w W) => examples17_any W (hS.q hq))
  have HSi := Lib.hid (fun W (hq : Q w W) => Sign_any r A n c u 1000 [114] W (hf.q hq) hc hcap hl.sign (hS.q hq))
  obtain ⟨N, w1, hN, e1, hb1, hq1⟩ : ∃ N w1, w.heap.size = N ∧ w.alloc (.cells (reqV r (.slice A n c)).toArray 24) = w1 ∧ RB w1 N r (.slice A n c) ∧ Q w w1 := ⟨_, _, rfl, rfl, RB.new w r _, (Q.refl w).alloc _⟩
  obtain ⟨w2, hN1, e2, hb2, hu2, hq2⟩ : ∃ w2, w1.heap.size = N + 1 ∧ w1.alloc (.cells (userC u).toArray 26) = w2 ∧ RB w2 N r (.slice A n c) ∧ UB w2 (N + 1) u ∧ Q w w2 := by
    have hs1 : w1.heap.size = N + 1 := by rw [← e1, ← hN]; show (w.heap.push _).size = _; simp
    refine ⟨_, hs1, rfl, hb1.q ((Q.refl w1).alloc _), ?_, hq1.alloc _⟩
    rw [← hs1]; exact UB.new w1 u
  obtain ⟨Q0, hQ0⟩ : ∃ x, signQ r u 1000 [114] = x := ⟨_, rfl⟩
  rw [hQ0] at HSi
  have HCh : Hid (∀ (q : ReqD) (A' B : Option Addr) (L c' : Nat) (b : List UInt8) (v : UserD) (x : UserD × Int) W, Q0 = some q → Q w W → PairsAt W A' L q.fs → L ≤ c' → c' ≤ 9223372036854775807 → UsersAt W B 1 [v] → b.length ≤ 1048576 → v.sec.length ≤ 1048576 → checkQ { q with body := b } [v] 1000 [114] = x → Calls Tryz.prog 11 #[.agg (reqC { q with body := b } A' L c').toArray, .slice B 1 1, .int .i64 1000, .string ⟨#[114]⟩] W fun e w' => e = .returned (.tuple #[.agg (userC x.1).toArray, .int .i64 x.2]) ∧ Q W w') := Lib.hid (fun q A' B L c' b v x W hq0 hq hp h1 h2 hu hb hv hx => by
    obtain ⟨cc, hsg⟩ := signed_of (hQ0.trans hq0)
    have := Check_any { q with body := b } A' L c' B 1 1 [v] 1000 [114] W hp h1 h2 hu (by omega) (hl.chk hsg b hb [v] [114] (by decide) (fun z hz => by simp only [List.mem_cons, List.not_mem_nil, or_false] at hz; subst hz; omega)) (hS.q hq)
    rw [hx] at this; exact this)
  have HPl : Hid (∀ q, Q0 = some q → q.body = r.body ∧ (((checkQ q [{ u with sec := ns }] 1000 [114]).2 = 0 ∨ (checkQ q [{ u with sec := ns }] 1000 [114]).2 = 74) ∧ (ns = u.sec → (checkQ q [{ u with sec := ns }] 1000 [114]).2 = 0)) ∧ (((checkQ { q with body := nb } [u] 1000 [114]).2 = 0 ∨ (checkQ { q with body := nb } [u] 1000 [114]).2 = 76) ∧ (nb = r.body → (checkQ { q with body := nb } [u] 1000 [114]).2 = 0))) := Lib.hid (fun q hq0 => by
    obtain ⟨cc, hsg⟩ := signed_of (hQ0.trans hq0)
    exact ⟨by rw [hsg.e], check_secret hsg ns, check_body hsg nb⟩)
  have HSec : Hid (u.sec.length ≤ 1048576) := Lib.hid hl.sec
  have HBd : Hid (r.body.length ≤ 1048576) := Lib.hid hl.body
  have HB := Lib.hid hb2
  have HU := Lib.hid hu2
  have HQ := Lib.hid hq2
  have HNw : Hid (w.heap.size ≤ N) := Lib.hid (by omega)
  clear hf hS hl hb1 hq1 hb2 hu2 hq2 hQ0 hc hcap
  obtain ⟨m, tg, minor, fs, body, close⟩ := r
  obtain ⟨un, ui, uc⟩ := u
  simp only [reqV, userC] at e1 e2
  simp only at HPl
  unfold reqC userC
  unfold reqC userC at HSi
  unfold SignPost at HSi
  go_enter Tryz.func4, Tryz.ntmps4
  go_wp2_with fail
  refine (HEx.out _ HQ.out).mono ?_
  rintro e w3 ⟨rfl, hq3⟩
  have HB3 := Lib.hid (HB.out.q hq3)
  have HU3 := Lib.hid (HU.out.q hq3)
  have HQ3 := Lib.hid (HQ.out.trans hq3)
  clear hq3 e1 e2 hN hN1 HB HU HQ HEx
  obtain ⟨b0, b1, b2, b3, b4, b5⟩ := HB3.out.c
  obtain ⟨u0, u1, u2⟩ := HU3.out.c
  simp only at b0 b1 b2 b4 b5 u0 u1 u2
  go_wp2_with fail
  refine (HSi.out _ HQ3.out).mono ?_
  clear b0 b1 b2 b3 b4 b5 u0 u1 u2 HSi
  rcases Q0 with _ | q
  · rintro e w4 ⟨rfl, hq4⟩
    have HQ4 := Lib.hid (HQ3.out.trans hq4)
    clear hq4
    obtain ⟨M, Y1, Y2, hM, hY1, hl1, hY2, hl2, hq2⟩ := rq_boxes w4 zeroR (.slice none 0 0)
    have HQ5 := Lib.hid (HQ4.out.trans hq2)
    have hY1b : w4.alloc (.cells #[.string ⟨#[]⟩, .string ⟨#[]⟩, .int .i64 0, .slice none 0 0, .string ⟨#[]⟩, .bool false] 24) = Y1 := hY1
    clear hl2 hq2
    go_upto_region 3 with (refine wpList_store_row rfl 24 _ _ rfl M (reqV zeroR (.slice none 0 0)).toArray (by rfl) (by rfl) 24 _ hl1 (infoReqS _ _) rfl (reqV_one _ _ _ _) ?_)
    try rw [hY2]
    clear hM hY1 hl1 hY2 hY1b
    go_wp2_with fail
    go_ret
    exact ⟨rfl, HQ5.out⟩
  rintro e w4 ⟨v, rfl, ho, hq4⟩
  obtain ⟨hqb, hx1, hx2⟩ := HPl.out q rfl
  have hcb := ho
  obtain ⟨A', c', rfl, hc', hp'⟩ := ho.pairs
  have hcap' := hcb.capb'
  obtain ⟨L, hL⟩ : ∃ L, q.fs.length = L := ⟨_, rfl⟩
  rw [hL] at hc' hp' ⊢
  have HQ4 := Lib.hid (HQ3.out.trans hq4)
  have HB4 := Lib.hid (HB3.out.q hq4)
  have HU4 := Lib.hid (HU3.out.q hq4)
  have HP4 := Lib.hid hp'
  have HX1 := Lib.hid hx1
  have HX2 := Lib.hid hx2
  have HQB := Lib.hid hqb
  clear ho hcb hp' hq4 hL hx1 hx2 hqb HPl HU3 HB3
  obtain ⟨M, Y1, Y2, hM, hY1, hl1, hY2, hl2, hq2⟩ := rq_boxes w4 q (.slice A' L c')
  have hY1b : w4.alloc (.cells #[.string ⟨#[]⟩, .string ⟨#[]⟩, .int .i64 0, .slice none 0 0, .string ⟨#[]⟩, .bool false] 24) = Y1 := hY1
  have HNM : Hid (N + 1 < M) := Lib.hid (by rw [← hM]; exact lt_of_heap HU4.out)
  have HAM : Hid (∀ g off, A' = some ⟨g, off, none⟩ → 0 < L → g ≠ M) := Lib.hid (fun g off e h0 => by
    obtain ⟨g', off', e', hlt, _⟩ := HP4.out.2 h0
    rw [e] at e'; injection e' with e'; injection e' with e1 _
    rw [e1]; omega)
  have HX := Lib.hid (show By17 w Y2 N M ⟨m, tg, minor, fs, body, close⟩ (.slice A n c) ⟨un, ui, uc⟩ q A' L c' from ⟨HQ4.out.trans hq2, HB4.out.q hq2, HU4.out.q hq2, hl2, HP4.out.q hq2⟩)
  clear hl2 hq2
  go_upto_region 3 with (refine wpList_store_row rfl 24 _ _ rfl M (reqV q (.slice A' L c')).toArray (by rfl) (by rfl) 24 _ hl1 (infoReqS _ _) rfl (reqV_one _ _ _ _) ?_)
  try rw [hY2]
  obtain ⟨Z3, hZ⟩ : ∃ W, Y2 = W := ⟨_, rfl⟩
  rw [hZ] at HX ⊢
  clear hZ hM hY1 hl1 hY2 hY1b HQ4 HU4 HP4 HQ3 HB4 Y1 Y2
  obtain ⟨u0, u1, u2⟩ := HX.out.u.c
  simp only at u0 u1 u2
  obtain ⟨O, Y1, Y2, hO, hY1, hl1, hY2, hl2, hq2⟩ := usr_boxes Z3 ⟨un, ui, uc⟩
  have hY1b : Z3.alloc (.cells #[.string ⟨#[]⟩, .string ⟨#[]⟩, .string ⟨#[]⟩] 26) = Y1 := hY1
  have HMO : Hid (M < O) := Lib.hid (by rw [← hO]; exact lt_of_heap HX.out.r)
  have HAO : Hid (∀ g off, A' = some ⟨g, off, none⟩ → 0 < L → g ≠ O) := Lib.hid (fun g off e h0 => by
    obtain ⟨g', off', e', hlt, _⟩ := HX.out.p.2 h0
    rw [e] at e'; injection e' with e'; injection e' with e1 _
    rw [e1]; omega)
  have HX := Lib.hid (HX.out.go hq2)
  have HO := Lib.hid hl2
  clear hl2 hq2
  go_upto_region 6 with (refine wpList_store_row rfl 26 _ _ rfl O (userC ⟨un, ui, uc⟩).toArray (by rfl) (by rfl) 26 _ hl1 (infoUsrS _) rfl (userC_one _) ?_)
  try rw [hY2]
  obtain ⟨Z5, hZ⟩ : ∃ W, Y2 = W := ⟨_, rfl⟩
  rw [hZ] at HX HO ⊢
  clear hZ hO hY1 hl1 hY2 hY1b u0 u1 u2 Y1 Y2
  obtain ⟨o0, o1, o2⟩ := HO.out.c
  have fo := HO.out.f 2
  simp only at o2
  have HO6 := Lib.hid (HO.out.setSec ns)
  have HX6 : Hid (By17 w (Z5.setCell ⟨O, 2, none⟩ (.string ⟨ns.toArray⟩)) N M ⟨m, tg, minor, fs, body, close⟩ (.slice A n c) ⟨un, ui, uc⟩ q A' L c') := Lib.hid ⟨Q.setNew HX.out.gr (by have := HNw.out; have := HNM.out; have := HMO.out; show w.heap.size ≤ O; omega) _, HX.out.s.otherC (by have := HNM.out; have := HMO.out; omega) _, HX.out.u.otherC (by have := HNM.out; have := HMO.out; omega) _, HX.out.r.otherC (by have := HMO.out; omega) _, HX.out.p.setC O 2 _ HAO.out⟩
  obtain ⟨Z6, hZ6⟩ : ∃ W, Z5.setCell ⟨O, 2, none⟩ (.string ⟨ns.toArray⟩) = W := ⟨_, rfl⟩
  rw [hZ6] at HO6 HX6
  have HX := HX6
  go_upto_region 7 with (fail)
  try rw [hZ6]
  clear hZ6 HX6 HO o0 o1 o2 fo HAO
  obtain ⟨qm, qt, qi, qf, qb, qc⟩ := q
  simp only at HQB
  obtain ⟨b0, b1, b2, b3, b4, b5⟩ := HX.out.r.c
  obtain ⟨u0, u1, u2⟩ := HO6.out.c
  simp only at b0 b1 b2 b3 b4 b5 u0 u1 u2
  obtain ⟨V7, hV7⟩ : ∃ X, Z6.alloc (.cells (([⟨un, ui, ns⟩] : List UserD).flatMap userC).toArray 26) = X := ⟨_, rfl⟩
  have hus : UsersAt V7 (some ⟨Z6.heap.size, 0, none⟩) 1 [⟨un, ui, ns⟩] := by rw [← hV7]; exact UsersAt.lit Z6 _ 1 rfl
  have hqv : Q Z6 V7 := by rw [← hV7]; exact (Q.refl _).alloc _
  have hV7b : Z6.alloc (.cells #[.string ⟨un.toArray⟩, .string ⟨ui.toArray⟩, .string ⟨ns.toArray⟩] 26) = V7 := hV7
  obtain ⟨g7, hg7⟩ : ∃ g, Z6.heap.size = g := ⟨_, rfl⟩
  rw [hg7] at hus
  have HX := Lib.hid (HX.out.go hqv)
  have HUS := Lib.hid hus
  clear hus hqv hV7
  obtain ⟨X7, hX7⟩ : ∃ x, checkQ ⟨qm, qt, qi, qf, qb, qc⟩ [⟨un, ui, ns⟩] 1000 [114] = x := ⟨_, rfl⟩
  have HC7 := Lib.hid (fun W hq hp hu => HCh.out ⟨qm, qt, qi, qf, qb, qc⟩ A' (some ⟨g7, 0, none⟩) L c' qb ⟨un, ui, ns⟩ X7 W rfl hq hp hc' hcap' hu (by rw [HQB.out]; exact HBd.out) hns hX7)
  have HX7 := Lib.hid hX7
  clear hX7
  unfold reqC at HC7
  simp only at HC7
  go_wp2_with fail
  refine (HC7.out V7 HX.out.gr HX.out.p HUS.out).mono ?_
  rintro e y7 ⟨rfl, hqy⟩
  have HX := Lib.hid (HX.out.go hqy)
  clear hqy hV7b hg7 b0 b1 b2 b3 b4 b5 u0 u1 u2 HUS HC7
  obtain ⟨M7, Y1, Y2, hM, hY1, hl1, hY2, hl2, hq2⟩ := usr_boxes y7 X7.1
  have hY1b : y7.alloc (.cells #[.string ⟨#[]⟩, .string ⟨#[]⟩, .string ⟨#[]⟩] 26) = Y1 := hY1
  have HX := Lib.hid (HX.out.go hq2)
  have HU7 := Lib.hid hl2
  clear hl2 hq2
  go_upto_region 8 with (refine wpList_store_row rfl 26 _ _ rfl M7 (userC X7.1).toArray (by rfl) (by rfl) 26 _ hl1 (infoUsrS _) rfl (userC_one _) ?_)
  try rw [hY2]
  obtain ⟨Z7, hZ⟩ : ∃ W, Y2 = W := ⟨_, rfl⟩
  rw [hZ] at HX HU7 ⊢
  clear hZ hM hY1 hl1 hY2 hY1b Y1 Y2
  obtain ⟨b0, b1, b2, b3, b4, b5⟩ := HX.out.r.c
  have f4 := HX.out.r.f 4
  have hnm := HNM.out
  have HX8 : Hid (By17 w (Z7.setCell ⟨M, 4, none⟩ (.string ⟨nb.toArray⟩)) N M ⟨m, tg, minor, fs, body, close⟩ (.slice A n c) ⟨un, ui, uc⟩ ⟨qm, qt, qi, qf, nb, qc⟩ A' L c') := Lib.hid ⟨Q.setNew HX.out.gr (by have := HNw.out; show w.heap.size ≤ M; omega) _, HX.out.s.otherC (by omega) _, HX.out.u.otherC (by omega) _, HX.out.r.setBody nb, HX.out.p.setC M 4 _ HAM.out⟩
  obtain ⟨Z8, hZ8⟩ : ∃ W, Z7.setCell ⟨M, 4, none⟩ (.string ⟨nb.toArray⟩) = W := ⟨_, rfl⟩
  rw [hZ8] at HX8
  have HX := HX8
  go_upto_region 9 with (fail)
  try rw [hZ8]
  clear hZ8 HX8 b0 b1 b2 b3 b4 b5 f4 hnm
  obtain ⟨b0, b1, b2, b3, b4, b5⟩ := HX.out.r.c
  obtain ⟨u0, u1, u2⟩ := HX.out.u.c
  simp only at b0 b1 b2 b3 b4 b5 u0 u1 u2
  obtain ⟨V9, hV9⟩ : ∃ X, Z8.alloc (.cells (([⟨un, ui, uc⟩] : List UserD).flatMap userC).toArray 26) = X := ⟨_, rfl⟩
  have hus : UsersAt V9 (some ⟨Z8.heap.size, 0, none⟩) 1 [⟨un, ui, uc⟩] := by rw [← hV9]; exact UsersAt.lit Z8 _ 1 rfl
  have hqv : Q Z8 V9 := by rw [← hV9]; exact (Q.refl _).alloc _
  have hV9b : Z8.alloc (.cells #[.string ⟨un.toArray⟩, .string ⟨ui.toArray⟩, .string ⟨uc.toArray⟩] 26) = V9 := hV9
  obtain ⟨g9, hg9⟩ : ∃ g, Z8.heap.size = g := ⟨_, rfl⟩
  rw [hg9] at hus
  have HX := Lib.hid (HX.out.go hqv)
  have HUS := Lib.hid hus
  clear hus hqv hV9
  obtain ⟨X9, hX9⟩ : ∃ x, checkQ ⟨qm, qt, qi, qf, nb, qc⟩ [⟨un, ui, uc⟩] 1000 [114] = x := ⟨_, rfl⟩
  have HC9 := Lib.hid (fun W hq hp hu => HCh.out ⟨qm, qt, qi, qf, qb, qc⟩ A' (some ⟨g9, 0, none⟩) L c' nb ⟨un, ui, uc⟩ X9 W rfl hq hp hc' hcap' hu hnb HSec.out hX9)
  have HX9 := Lib.hid hX9
  clear hX9
  unfold reqC at HC9
  simp only at HC9
  go_wp2_with fail
  refine (HC9.out V9 HX.out.gr HX.out.p HUS.out).mono ?_
  rintro e y9 ⟨rfl, hqy⟩
  have HX := Lib.hid (HX.out.go hqy)
  clear hqy hV9b hg9 b0 b1 b2 b3 b4 b5 u0 u1 u2 HUS HC9
  obtain ⟨M9, Y1, Y2, hM, hY1, hl1, hY2, hl2, hq2⟩ := usr_boxes y9 X9.1
  have hY1b : y9.alloc (.cells #[.string ⟨#[]⟩, .string ⟨#[]⟩, .string ⟨#[]⟩] 26) = Y1 := hY1
  have HX := Lib.hid (HX.out.go hq2)
  have HU9 := Lib.hid hl2
  clear hl2 hq2
  go_upto_region 10 with (refine wpList_store_row rfl 26 _ _ rfl M9 (userC X9.1).toArray (by rfl) (by rfl) 26 _ hl1 (infoUsrS _) rfl (userC_one _) ?_)
  try rw [hY2]
  obtain ⟨Z9, hZ⟩ : ∃ W, Y2 = W := ⟨_, rfl⟩
  rw [hZ] at HX HU9 ⊢
  clear hZ hM hY1 hl1 hY2 hY1b Y1 Y2
  have hy1 := HX1.out
  have hy2 := HX2.out
  rw [HX7.out] at hy1
  rw [HX9.out] at hy2
  obtain ⟨X7u, X7e⟩ := X7
  obtain ⟨X9u, X9e⟩ := X9
  simp only at hy1 hy2 ⊢
  obtain ⟨hy1a, hy1b⟩ := hy1
  obtain ⟨hy2a, hy2b⟩ := hy2
  have b4 := HX.out.s.c.2.2.2.2.1
  have u2 := HX.out.u.c.2.2
  simp only at b4 u2
  clear HX7 HX9 HU7 HU9 HX1 HX2
  by_cases hb : nb = body
  · have h9 := hy2b hb
    subst h9
    have k1 : (nb == body) = true := by simpa using hb
    by_cases hs : ns = uc
    · have h7 := hy1b hs
      subst h7
      have k2 : (ns == uc) = true := by simpa using hs
      clear hb hs hy1a hy1b hy2a hy2b
      go_wp2_with fail
      go_ret
      exact ⟨rfl, HX.out.gr⟩
    · have k2 : (ns == uc) = false := by simpa using hs
      clear hb hs hy1b hy2a hy2b
      rcases hy1a with rfl | rfl
      all_goals
        go_wp2_with fail
        go_ret
        exact ⟨rfl, HX.out.gr⟩
  · have k1 : (nb == body) = false := by simpa using hb
    by_cases hs : ns = uc
    · have h7 := hy1b hs
      subst h7
      have k2 : (ns == uc) = true := by simpa using hs
      clear hb hs hy1a hy1b hy2b
      rcases hy2a with rfl | rfl
      all_goals
        go_wp2_with fail
        go_ret
        exact ⟨rfl, HX.out.gr⟩
    · have k2 : (ns == uc) = false := by simpa using hs
      clear hb hs hy1b hy2b
      rcases hy1a with rfl | rfl <;> rcases hy2a with rfl | rfl
      all_goals
        go_wp2_with fail
        go_ret
        exact ⟨rfl, HX.out.gr⟩
end Go.Proofs.YtmmoenbmgcplkaaGreatDoor
/- SignBack and SignBody in the closings' order. -/
set_option linter.unusedVariables false
namespace Go.Proofs.YtmmoenbmgcplkaaGreatDoor
open Go Go.RowKit
theorem SignBack_law (r : ReqD) (A : Option Addr) (n c : Nat) (u : UserD) (now off : Int) (rg : List UInt8) (w : World) (h : ReqIn w r A n c) (wl : -9223372036854775808 ≤ now) (wh : now ≤ 9223372036854775807) (ol : -9223372036854775808 ≤ off) (oh : off ≤ 9223372036854775807)
    (h1 : u.id.length + rg.length ≤ 1048576) (h2 : u.sec.length ≤ 1048576) (h3 : rg.length ≤ 1048576) (hS : S17 w) :
    Calls Tryz.prog 3 #[.agg (reqC r A n c).toArray, .agg (userC u).toArray, .int .i64 now, .int .i64 off, .string ⟨rg.toArray⟩] w fun e w' => e = .returned (.bool true) ∧ Q w w' :=
  SignBack_any r A n c u now off rg w h.p h.c h.cap ⟨h.tg, h.m, h.hv, h.body, by omega, h2, by omega, by omega⟩ ol oh hS
theorem SignBody_law (r : ReqD) (A : Option Addr) (n c : Nat) (u : UserD) (nb ns : List UInt8) (w : World) (h : ReqIn w r A n c)
    (h1 : u.id.length ≤ 1048576) (h2 : u.sec.length ≤ 1048576) (h3 : nb.length ≤ 1048576) (h4 : ns.length ≤ 1048576) (hS : S17 w) :
    Calls Tryz.prog 4 #[.agg (reqC r A n c).toArray, .agg (userC u).toArray, .string ⟨nb.toArray⟩, .string ⟨ns.toArray⟩] w fun e w' => e = .returned (.bool true) ∧ Q w w' :=
  SignBody_any r A n c u nb ns w h.p h.c h.cap ⟨h.tg, h.m, h.hv, h.body, by omega, h2, by decide, by simp; omega⟩ h3 h4 hS
end Go.Proofs.YtmmoenbmgcplkaaGreatDoor
