/- Texts of this proof, laid into one: SgI, SgL, Fin, SgM. -/
import Derived.Test.YtmmoenbmgcplkaaGreatDoorMy10
set_option linter.unusedVariables false
set_option linter.unusedSimpArgs false
namespace Go.Proofs.YtmmoenbmgcplkaaGreatDoor
open Go Go.RowKit
structure ReqD where
  m : List UInt8
  tg : List UInt8
  minor : Int
  fs : List PairD
  body : List UInt8
  close : Bool
def reqC (r : ReqD) (A : Option Addr) (n c : Nat) : List Value := [.string ⟨r.m.toArray⟩, .string ⟨r.tg.toArray⟩, .int .i64 r.minor, .slice A n c, .string ⟨r.body.toArray⟩, .bool r.close]
instance (ls : List (List UInt8)) : Decidable (namesOk ls) := by unfold namesOk nameAt; infer_instance
def bodySumL : List UInt8 := [120, 45, 97, 109, 122, 45, 99, 111, 110, 116, 101, 110, 116, 45, 115, 104, 97, 50, 53, 54]
def lineL (fs : List PairD) (n : List UInt8) : Option (List UInt8) := (fieldL fs n).map fun v => n ++ 58 :: squeezeL v
def linesL (fs : List PairD) : List (List UInt8) → Option (List (List UInt8))
  | [] => some []
  | n :: r => match lineL fs n with | none => none | some a => match linesL fs r with | none => none | some b => some (a :: b)
theorem linesL_snoc (fs : List PairD) (n : List UInt8) : ∀ ns, linesL fs (ns ++ [n]) = match linesL fs ns with | none => none | some b => match lineL fs n with | none => none | some a => some (b ++ [a]) := by
  intro ns
  induction ns with
  | nil => simp [linesL]
  | cons x r ih =>
    rw [List.cons_append, linesL, ih, linesL]
    rcases lineL fs x with _ | a
    · rfl
    · rcases linesL fs r with _ | b
      · rfl
      · rcases lineL fs n with _ | c <;> rfl
theorem linesL_none {fs : List PairD} : ∀ {ns : List (List UInt8)} (k : Nat), k < ns.length → lineL fs (gL ns k) = none → linesL fs ns = none := by
  intro ns
  induction ns with
  | nil => intro k h; simp at h
  | cons x r ih =>
    intro k hk h
    rw [linesL]
    rcases k with _ | k
    · have : gL (x :: r) 0 = x := rfl
      rw [this] at h; rw [h]
    · have : gL (x :: r) (k + 1) = gL r k := by simp [gL]
      rw [this] at h
      have := ih k (by simpa using hk) h
      rcases lineL fs x with _ | a
      · rfl
      · rw [this]
def headL (r : ReqD) : List (List UInt8) := [r.m, encL false (tgtL r.tg).1, canonL (tgtL r.tg).2.1]
def canonQ (r : ReqD) (names : List (List UInt8)) : Option (List UInt8) :=
  if (tgtL r.tg).2.2.1 = 0 ∧ namesOk names then
    match linesL r.fs names, fieldL r.fs bodySumL with
    | some ls, some sum => some (Lib.join (headL r ++ ls ++ [[], Lib.join names [59], sum]) [10])
    | _, _ => none
  else none
def CanPost (q : Option (List UInt8)) (w : World) (e : Ending) (w' : World) : Prop :=
  (match q with
   | some c => e = .returned (.tuple #[.string ⟨c.toArray⟩, .nilIface])
   | none => ∃ b, e = .returned (.tuple #[.string ⟨#[]⟩, .iface 101 (.pointer (some ⟨b, 0, none⟩))]) ∧ FaultAt w' b 1 0) ∧ Q w w'
theorem names_chars {ls : List (List UInt8)} (h : namesOk ls) : (Lib.join ls []).all chrW = true := by
  have hall : ∀ x ∈ ls, x.all chrW = true := fun x hx => by
    obtain ⟨j, hj, rfl⟩ := List.mem_iff_getElem.1 hx
    have := (h.2 j hj).1
    rw [gL_get _ _ hj] at this
    unfold okName at this
    rw [Bool.and_eq_true] at this
    exact this.2
  clear h
  induction ls with
  | nil => rw [join_nil]; rfl
  | cons a r ih =>
    rcases r with _ | ⟨b, r⟩
    · rw [join_one]; exact hall a List.mem_cons_self
    · rw [join_cons, List.append_nil, List.all_append, hall a List.mem_cons_self, ih (fun x hx => hall x (List.mem_cons_of_mem _ hx))]; rfl
theorem sum_len_join0 : ∀ xs : List (List UInt8), (Lib.join xs []).length ≤ sumU xs := by
  intro xs
  induction xs with
  | nil => rw [join_nil]; simp
  | cons a r ih =>
    rcases r with _ | ⟨b, r⟩
    · rw [join_one]; simp [sumU]
    · rw [join_cons]; simp only [sumU, List.map_cons, List.sum_cons, List.length_append, List.length_cons, List.length_nil] at *; omega
theorem sumU_le (ls : List (List UInt8)) (m : Nat) (h : ∀ l ∈ ls, l.length ≤ m) : sumU ls ≤ ls.length * (m + 1) := by
  unfold sumU
  induction ls with
  | nil => simp
  | cons a r ih =>
    have h1 := h a List.mem_cons_self
    have h2 := ih (fun l hl => h l (List.mem_cons_of_mem _ hl))
    rw [List.map_cons, List.sum_cons, List.length_cons, Nat.succ_mul]; omega
theorem infoReq : (Tryz.prog.info? 24).map (·.size) = some 6 := by kernel_rfl
structure ReqOk (r : ReqD) : Prop where
  tg : r.tg.length ≤ 1050000
  m : r.m.length ≤ 10000000
  hv : (r.fs.map fun p => p.1.length + p.2.length + 3).sum ≤ 10000000
theorem wpList_append_tn {ops : Array Oper} {rest : List Oper} {o : Oper} {a : Act} {R : Exit → Act → World → Prop} (hgd : o.guard = none) (s x : Operand)
    (ho : o.op = .call { callee := .builtin .append, args := #[s, x], argTypes := #[39, 39] })
    (w0 W : World) (v : Value) (us : List Value) (xs : List (List UInt8)) (m : Nat) (hm : xs.length = m) (hm3 : m ≤ 100) (hs : a.eval s = v) (hown : OwnS 9 w0 W v us) (hx : a.eval x = .slice (some ⟨W.heap.size, 0, none⟩) m m) (hw0 : w0.heap.size ≤ W.heap.size) (hb : us.length ≤ 1100000)
    (h : ∀ v' w', OwnS 9 w0 w' v' (us ++ xs.map strV) → W.grownBy w' v.ownBlock → wpList Tryz.prog ops R rest (a.put o.dst v') w') : wpList Tryz.prog ops R (o :: rest) a (W.alloc (.cells (xs.map strV).toArray 9)) := by
  obtain ⟨i, hi, hz, hsz, hby⟩ := info_parts oneStrU.info
  refine wpList_append_own (w := W.alloc (.cells (xs.map strV).toArray 9)) hgd s x 39 ho w0.heap.size 9 i _ 1 16 oneStrU.under hi hz hsz hby oneStrU.zsize (by decide) v us.length us hs (World.ownsRow.alloc hown _) ⟨W.heap.size, 0, none⟩ m m (xs.map strV) hx (by simp [hm]) ?_ ?_ (by unfold maxLen; omega) (by omega) (by simp; omega) ?_
  · intro j y hj
    have e : (Addr.add ⟨W.heap.size, 0, none⟩ j) = ⟨W.heap.size, j, none⟩ := by unfold Addr.add; split <;> simp_all
    rw [e, cell_of_row _ _ _ _ _ _ (MapKept.heap_alloc W _).1]
    simpa using hj
  · intro u hu
    obtain ⟨l, _, rfl⟩ := List.mem_map.1 hu
    rfl
  · intro v' w' h2 hg _
    refine h v' w' ?_ ((World.grownBy_alloc W _ _).trans hg)
    unfold OwnS; rw [List.length_append, List.length_map, hm]; exact h2
theorem OwnS.lit (w0 w : World) (xs : List (List UInt8)) (hw : w0.heap.size ≤ w.heap.size) (hl : xs.length ≤ 1000) : OwnS 9 w0 (w.alloc (.cells (xs.map strV).toArray 9)) (.slice (some ⟨w.heap.size, 0, none⟩) xs.length xs.length) (xs.map strV) := by
  unfold OwnS
  rw [List.length_map]
  refine ⟨by simp, .inr ⟨w.heap.size, xs.length, _, rfl, hw, heap_alloc_new w _, Nat.le_refl _, by unfold maxLen; omega, by simp, ?_⟩⟩
  simp only [List.toList_toArray, Nat.mul_one]
  exact List.take_of_length_le (by simp)
theorem OwnS.nm {w0 w : World} {v : Value} {ls : List (List UInt8)} (h : OwnS 9 w0 w v (ls.map strV)) : ∃ A cap, v = .slice A ls.length cap ∧ ls.length ≤ cap ∧ NmAt w A ls.length ls := by
  rcases h.2 with ⟨rfl, h0⟩ | ⟨g, cap, cur, rfl, hb, hh, hn, hm, hcs, ht⟩
  · rw [List.length_map] at h0
    exact ⟨none, 0, by rw [h0], by omega, rfl, fun h => by omega⟩
  · rw [List.length_map] at hn ht ⊢
    refine ⟨_, cap, rfl, hn, rfl, fun _ => ⟨g, 0, rfl, lt_of_heap hh, fun i hi => ?_⟩⟩
    rw [Nat.zero_add, cell_of_row _ _ _ _ _ _ hh]
    have e : (cur.toList.take (ls.length * 1))[i]? = (ls.map strV)[i]? := by rw [ht]
    rw [List.getElem?_take, if_pos (by omega), Array.getElem?_toList] at e
    rw [e, List.getElem?_map, List.getElem?_eq_getElem hi, gL_get _ _ hi]; rfl
theorem OwnU.capb' {w0 w : World} {A : Option Addr} {n cap : Nat} {l : List PairD} (h : OwnU w0 w (.slice A n cap) l) : cap ≤ 9223372036854775807 := by
  rcases h.2 with ⟨h1, _⟩ | ⟨g, c2, cur, h1, _, _, _, hm, _⟩
  · injection h1 with _ _ h3; omega
  · injection h1 with _ _ h3; subst h3; exact hm
theorem fieldL_mem {fs : List PairD} {t v : List UInt8} (h : fieldL fs t = some v) : v.length + 3 ≤ heavy fs := by
  unfold fieldL at h
  rcases hf : fs.findIdx? (isN t) with _ | k
  · rw [hf] at h; cases h
  · rw [hf] at h
    simp only at h
    split at h
    · cases h
    · injection h with h
      subst h
      have hk : k < fs.length := (List.findIdx?_eq_some_iff_getElem.1 hf).1
      have := heavy_mem (List.getElem_mem hk)
      rw [gU_get _ _ hk]; omega
set_option maxRecDepth 100000 in
set_option maxHeartbeats 4000000 in
theorem canonical_any (r : ReqD) (A : Option Addr) (n c : Nat) (B : Option Addr) (k kc : Nat) (names : List (List UInt8)) (w : World) (hf : PairsAt w A n r.fs) (hc : n ≤ c) (hcap : c ≤ 9223372036854775807) (hok : ReqOk r)
    (hnm : NmAt w B k names) (hkc : k ≤ kc) (hk : k ≤ 1060000) (hnb : sumU names ≤ 10000000) (hS : S17 w) :
    Calls Tryz.prog 30 #[.agg (reqC r A n c).toArray, .slice B k kc] w (CanPost (canonQ r names) w) := by
  have hnl : ∀ x ∈ names, x.length ≤ 100000000 := fun x hx => by
    obtain ⟨j, hj, rfl⟩ := List.mem_iff_getElem.1 hx
    have := part_sumU names j hj
    rw [gL_get _ _ hj] at this; omega
  have HT := Lib.hid (fun W hW => Target_any r.tg W hW (by have := hok.tg; omega))
  unfold TgtPost at HT
  have HNM := Lib.hid hnm
  have HF := Lib.hid hf
  have HS := Lib.hid hS
  have HN := Lib.hid (fun W (h : NmAt W B k names) => names_any B k kc names W h (by omega) hnl)
  have HST := Lib.hid (fun W => stop_any 1 W)
  obtain ⟨m, tg, minor, fs, body, close⟩ := r
  simp only at HT hf HF
  have hbox : (w.alloc (.cells (reqC ⟨m, tg, minor, fs, body, close⟩ A n c).toArray 24)).heap[w.heap.size]? = some (.cells (reqC ⟨m, tg, minor, fs, body, close⟩ A n c).toArray 24 (0, 0)) := heap_alloc_new w _
  have HBX : Hid (∀ W, Q (w.alloc (.cells (reqC ⟨m, tg, minor, fs, body, close⟩ A n c).toArray 24)) W → W.cell? ⟨w.heap.size, 0, none⟩ = some (.string ⟨m.toArray⟩) ∧ W.cell? ⟨w.heap.size, 1, none⟩ = some (.string ⟨tg.toArray⟩) ∧ W.cell? ⟨w.heap.size, 3, none⟩ = some (.slice A n c)) := Lib.hid (fun W hq => by
    have h1 := hq.block hbox
    exact ⟨by rw [cell_of_row _ _ _ _ _ _ h1]; rfl, by rw [cell_of_row _ _ _ _ _ _ h1]; rfl, by rw [cell_of_row _ _ _ _ _ _ h1]; rfl⟩)
  clear hbox
  obtain ⟨w0, hw0⟩ : ∃ W, w.alloc (.cells (reqC ⟨m, tg, minor, fs, body, close⟩ A n c).toArray 24) = W := ⟨_, rfl⟩
  rw [hw0] at HBX
  have HW0 : Hid (Q w w0) := Lib.hid (by rw [← hw0]; exact (Q.refl w).alloc _)
  have hw0b : w.alloc (.cells #[.string ⟨m.toArray⟩, .string ⟨tg.toArray⟩, .int .i64 minor, .slice A n c, .string ⟨body.toArray⟩, .bool close] 24) = w0 := hw0
  obtain ⟨N0, hN0⟩ : ∃ N, w.heap.size = N := ⟨_, rfl⟩
  rw [hN0] at HBX
  have HB3 : Hid (∀ W, Q w0 W → W.cell? ⟨N0, 3, none⟩ = some (.slice A n c)) := Lib.hid (fun W hq => (HBX.out W hq).2.2)
  have c1 := (HBX.out w0 (Q.refl _)).2.1
  clear hw0
  by_cases he : (tgtL tg).2.2.1 = 0
  · obtain ⟨⟨path, qs, ee, aa⟩, hT⟩ : ∃ T, tgtL tg = T := ⟨_, rfl⟩
    have HTT := Lib.hid hT
    rw [hT] at HT he
    simp only at HT he
    subst he
    clear hT
    by_cases hn : namesOk names
    · have hjc := names_chars hn
      have hjl := sum_len_join0 names
      have HJ := Lib.hid (fun W (h : NmAt W B k names) => join_nm B k kc names [] W h hkc (by omega) (by omega))
      have HI := Lib.hid (fun W => inner_any (Lib.join names []) W)
      rw [hjc] at HI
      have HNO := Lib.hid hn
      generalize Lib.join names [] = JN at HJ HI
      clear hnl hf hnm hS hn hjc hjl
      unfold reqC
      go_enter Tryz.func30, Tryz.ntmps30
      go_wp2_with fail
      refine (HT.out _ (HS.out.u.q HW0.out)).mono ?_
      rintro e w2 ⟨v7, rfl, ho7, hq2⟩
      have HW2 := Lib.hid (HW0.out.trans hq2)
      have HX2 := Lib.hid hq2
      have HO7 := Lib.hid ho7
      clear hq2 ho7 c1
      go_wp2_with fail
      refine (HN.out _ (HNM.out.q HW2.out)).mono ?_
      rintro e w3 ⟨⟨rr, rfl, hr⟩, hq3⟩
      obtain rfl : rr = true := hr.2 HNO.out
      have HW3 := Lib.hid (HW2.out.trans hq3)
      have HX3 := Lib.hid (HX2.out.trans hq3)
      have HO73 := Lib.hid (HO7.out.q hq3)
      clear hq3 hr
      go_wp2_with fail
      refine (HJ.out _ (HNM.out.q HW3.out)).mono ?_
      rintro e w4 ⟨rfl, hq4⟩
      go_wp2_with fail
      refine (HI.out _).mono ?_
      rintro e w5 ⟨rfl, hq5⟩
      have HW5 := Lib.hid (HW3.out.trans (hq4.trans hq5))
      have HX5 := Lib.hid (HX3.out.trans (hq4.trans hq5))
      have HO75 := Lib.hid (HO73.out.q (hq4.trans hq5))
      clear hq4 hq5 HJ HI HX3 HX2 HO7 HO73
      have hth := tgt_heavy tg
      rw [HTT.out] at hth
      obtain ⟨hth1, hth2⟩ := hth
      simp only at hth1 hth2
      have htg := hok.tg
      simp only at htg
      have hql := heavy_len qs
      have hqe : ∀ p ∈ qs, p.1.length ≤ 10000000 ∧ p.2.length ≤ 10000000 := fun p hp => by have := heavy_mem hp; omega
      have hcl := canon_heavy qs
      obtain ⟨A2, c2, rfl, hc2, hp2⟩ := HO75.out.pairs
      have hcb2 := HO75.out.capb'
      have HE := Lib.hid (fun W => Encode_any path false W (by omega))
      have HC : Hid (∀ W, Q w5 W → Calls Tryz.prog 70 #[.slice A2 qs.length c2] W fun e w' => e = .returned (.string ⟨(canonL qs).toArray⟩) ∧ Q W w') := Lib.hid (fun W hq => Canon_any A2 qs.length c2 qs W (hp2.q hq) hc2 hcb2 (by omega) hqe)
      have hel := encL_le false path
      have c0 := (HBX.out w5 HX5.out).1
      have d0 : ∀ mm : QW w5, mm.val.cell? ⟨N0, 0, none⟩ = some (.string ⟨m.toArray⟩) := fun mm => mm.cell c0
      obtain ⟨E, hE⟩ : ∃ E, encL false path = E := ⟨_, rfl⟩
      obtain ⟨C, hC⟩ : ∃ C, canonL qs = C := ⟨_, rfl⟩
      have HHd : Hid (headL ⟨m, tg, minor, fs, body, close⟩ = [m, E, C]) := Lib.hid (by unfold headL; rw [HTT.out, ← hE, ← hC])
      have hEl : E.length ≤ 4000000 := by rw [← hE]; omega
      have hCl : C.length ≤ 10000000 := by rw [← hC]; omega
      rw [hE] at HE
      rw [hC] at HC
      clear hth1 hth2 hql hqe hcl hcb2 hp2 hel hE hC HO75 c0
      go_upto_region 4 with (fail)
      refine wp_region_q_tail 6 (by kernel_rfl) (by kernel_rfl) ?_
      simp only [List.take_succ_cons, List.take_zero, List.drop_succ_cons, List.drop_zero, Act.put]
      (repeat (go_big_quiet_step (first | (go_at_call 69; exact calls_q (HE.out _)) | (go_at_call 70; exact calls_q (HC.out _ (QW.le _))))))
      refine wpQuiet_nil ?_
      rintro wx ⟨mx, hmx⟩
      have hqx : Q w5 wx := by rw [hmx]; exact mx.le
      have HXX := Lib.hid (HX5.out.trans hqx)
      clear hmx mx hqx d0 HE HC
      go_wp2_with fail
      obtain ⟨W1, hW1⟩ : ∃ W, wx.alloc (.cells ([m, E, C].map strV).toArray 9) = W := ⟨_, rfl⟩
      have hW1b : wx.alloc (.cells #[.string ⟨m.toArray⟩, .string ⟨E.toArray⟩, .string ⟨C.toArray⟩] 9) = W1 := hW1
      have HOL : Hid (OwnS 9 w0 W1 (.slice (some ⟨wx.heap.size, 0, none⟩) 3 3) ([m, E, C].map strV)) := Lib.hid (by rw [← hW1]; exact OwnS.lit w0 wx [m, E, C] HXX.out.size (by simp))
      have HX1 : Hid (Q w0 W1) := Lib.hid (by rw [← hW1]; exact HXX.out.alloc _)
      rw [hW1b]
      clear hW1 hW1b
      have hfsum := hok.hv
      have hmml := hok.m
      simp only at hfsum hmml
      have HOKU : Hid (OkU fs) := Lib.hid (fun p hp => by have := heavy_mem hp; unfold heavy at this; omega)
      have HFV : Hid (∀ t v, fieldL fs t = some v → v.length ≤ 10000000) := Lib.hid (fun t v h => by have := fieldL_mem h; unfold heavy at this; omega)
      have HNLen : Hid (∀ q, q < names.length → (gL names q).length ≤ 10000000) := Lib.hid (fun q hq => by have := part_sumU names q hq; omega)
      have HNMl := Lib.hid HNM.out.1
      have HCQ : Hid (∀ X, canonQ ⟨m, tg, minor, fs, body, close⟩ names = X ↔ (match linesL fs names, fieldL fs bodySumL with | some ls, some sum => some (Lib.join (headL ⟨m, tg, minor, fs, body, close⟩ ++ ls ++ [[], Lib.join names [59], sum]) [10]) | _, _ => none) = X) := Lib.hid (fun X => by
        unfold canonQ; rw [if_pos ⟨by rw [HTT.out], HNO.out⟩])
      clear hok hfsum HXX HX5 HW5 HBX
      go_loopw [10, 49] (fun lv i wr => ∃ (q : Nat) (ls : List (List UInt8)), q ≤ k ∧ i = .int .i64 (q : Int) ∧ Hid (linesL fs (names.take q) = some ls) ∧ Hid (ls.length = q) ∧ Hid (∀ l ∈ ls, l.length ≤ 30000000) ∧ Hid (OwnS 9 w0 wr lv (([m, E, C] ++ ls).map strV)) ∧ Hid (Q w0 wr)) (fun _ i _ => k - (intOf i).toNat)
      case atStart => exact ⟨0, [], by omega, rfl, Lib.hid rfl, Lib.hid rfl, Lib.hid (fun l h => by cases h), HOL, HX1⟩
      case round =>
        clear HOL HX1
        obtain ⟨q, ls, hq, rfl, HL, HLL, HLB, HO, HX⟩ := hrel
        rename World => wa
        have HWr := Lib.hid (HW0.out.trans HX.out)
        have c3 := HB3.out _ HX.out
        by_cases hlt : q < k
        · have g1 : decide (q < k) = true := by simpa using hlt
          have hqn : q < names.length := by rw [← HNMl.out]; exact hlt
          obtain ⟨gb, ob, rfl, cn⟩ := (HNM.out.q HWr.out).at hlt
          have hnl2 := HNLen.out q hqn
          have HSN := Lib.hid (linesL_snoc fs (gL names q) (names.take q))
          have HTS : Hid (names.take (q + 1) = names.take q ++ [gL names q]) := Lib.hid (by rw [List.take_add_one, List.getElem?_eq_getElem hqn, gL_get _ _ hqn]; rfl)
          have HLN := Lib.hid (fun h => linesL_none (fs := fs) (ns := names) q hqn h)
          obtain ⟨nm, hnm2⟩ : ∃ nm, gL names q = nm := ⟨_, rfl⟩
          rw [hnm2] at cn hnl2 HSN HTS HLN
          have HFd := Lib.hid (fun W (h : PairsAt W A n fs) => Field_any A n c fs nm W h HOKU.out (by omega) hc hcap)
          rcases hfl : fieldL fs nm with _ | v
          · rw [hfl] at HFd
            have HNone : Hid (canonQ ⟨m, tg, minor, fs, body, close⟩ names = none) := Lib.hid ((HCQ.out none).2 (by rw [HLN.out (by unfold lineL; rw [hfl]; rfl)]))
            clear hnm2 hfl HSN HTS HLN
            go_wp2_with fail
            refine (HFd.out _ (HF.out.q HWr.out)).mono ?_
            rintro e w2 ⟨rfl, hq2⟩
            have HWr := Lib.hid (HWr.out.trans hq2)
            clear hq2
            go_wp2_with fail
            refine (HST.out _).mono ?_
            rintro e w9 ⟨⟨b5, rfl, hf5⟩, hq5⟩
            have HQ5 := Lib.hid (HWr.out.trans hq5)
            have HF5 := Lib.hid hf5
            clear hq5 hf5
            go_wp2_with fail
            go_ret2
            unfold CanPost
            rw [HNone.out]
            exact ⟨⟨b5, rfl, HF5.out⟩, HQ5.out⟩
          · rw [hfl] at HFd
            have hvl := HFV.out nm v hfl
            have hln : lineL fs nm = some (nm ++ 58 :: squeezeL v) := by unfold lineL; rw [hfl]; rfl
            have hsq := squeeze_le v
            have HL2 : Hid (linesL fs (names.take (q + 1)) = some (ls ++ [nm ++ 58 :: squeezeL v])) := Lib.hid (by rw [HTS.out, HSN.out, HL.out, hln])
            have hfsl := fieldsL_len v
            have HFF := Lib.hid (fun W => fields_any v W (by omega))
            have HJJ := Lib.hid (fun (A' : Option Addr) W (h : NmAt W A' (fieldsL v).length (fieldsL v)) => join_nm A' (fieldsL v).length (fieldsL v).length (fieldsL v) [32] W h (Nat.le_refl _) (by show (squeezeL v).length ≤ _; omega) (by omega))
            have HSQ : Hid (Lib.join (fieldsL v) [32] = squeezeL v) := Lib.hid rfl
            rw [HSQ.out] at HJJ
            generalize squeezeL v = SQ at HJJ HL2 hsq
            generalize fieldsL v = FL at HFF HJJ hfsl
            clear hnm2 hfl HSN HTS HLN hln HSQ
            go_wp2_with fail
            refine (HFd.out _ (HF.out.q HWr.out)).mono ?_
            rintro e w2 ⟨rfl, hq2⟩
            have HX2 := Lib.hid (HX.out.trans hq2)
            have HO2 := Lib.hid (HO.out.q hq2)
            clear hq2 HX HO HFd
            go_wp2_with fail
            refine (HFF.out _).mono ?_
            rintro e w3 ⟨⟨A5, rfl, hn5⟩, hq3⟩
            have HX3 := Lib.hid (HX2.out.trans hq3)
            have HO3 := Lib.hid (HO2.out.q hq3)
            have HN5 := Lib.hid hn5
            clear hq3 HX2 HO2 hn5 HFF
            go_wp2_with fail
            refine (HJJ.out _ _ HN5.out).mono ?_
            rintro e w4 ⟨rfl, hq4⟩
            have HX4 := Lib.hid (HX3.out.trans hq4)
            have HO4 := Lib.hid (HO3.out.q hq4)
            clear hq4 HX3 HO3 HN5 HJJ c3 cn
            have hus : (([m, E, C] ++ ls).map strV).length ≤ 1100000 := by have := HLL.out; simp; omega
            have HUS := Lib.hid hus
            clear hus
            go_wp2_with (at_builtin; refine wpList_append_t rfl (.tmp 65) (.tmp 71) rfl w0 w4 _ _ (nm ++ 58 :: SQ) rfl HO4.out rfl HX4.out.size HUS.out ?_)
            intro v9 w9 ho9 hg9
            have HX9 := Lib.hid (gb_q_own hg9 HX4.out (fun k hk => HO4.out.block hk))
            have HO9 : Hid (OwnS 9 w0 w9 v9 (([m, E, C] ++ (ls ++ [nm ++ 58 :: SQ])).map strV)) := Lib.hid (by simpa using ho9)
            have HLB2 : Hid (∀ l ∈ ls ++ [nm ++ 58 :: SQ], l.length ≤ 30000000) := Lib.hid (fun l hl => by
              rcases List.mem_append.1 hl with h | h
              · exact HLB.out l h
              · rw [List.mem_singleton] at h; subst h; simp; omega)
            have HLL2 : Hid ((ls ++ [nm ++ 58 :: SQ]).length = q + 1) := Lib.hid (by simp [HLL.out])
            clear ho9 hg9 HO4 HX4 HL HLL HLB HUS
            go_wp2_with fail
            go_roundw
            case rel => exact ⟨q + 1, ls ++ [nm ++ 58 :: SQ], by omega, rfl, HL2, HLL2, HLB2, HO9, HX9⟩
            case measure => simp [intOf]; omega
        · obtain rfl : q = k := by omega
          have g1 : decide (q < q) = false := by simp
          clear hlt hq HN
          have HTK : Hid (names.take q = names) := Lib.hid (List.take_of_length_le (by rw [← HNMl.out]; omega))
          have HLs : Hid (linesL fs names = some ls) := Lib.hid (by rw [← HL.out, HTK.out])
          have HFd := Lib.hid (fun W (h : PairsAt W A n fs) => Field_any A n c fs bodySumL W h HOKU.out (by decide) hc hcap)
          rcases hfl : fieldL fs bodySumL with _ | v
          · rw [hfl] at HFd
            have HNone : Hid (canonQ ⟨m, tg, minor, fs, body, close⟩ names = none) := Lib.hid ((HCQ.out none).2 (by rw [HLs.out, hfl]))
            clear hfl HL HLs HTK HLB HO HX
            go_wp2_with fail
            refine (HFd.out _ (HF.out.q HWr.out)).mono ?_
            rintro e w2 ⟨rfl, hq2⟩
            have HWr := Lib.hid (HWr.out.trans hq2)
            clear hq2
            go_wp2_with fail
            refine (HST.out _).mono ?_
            rintro e w9 ⟨⟨b5, rfl, hf5⟩, hq5⟩
            have HQ5 := Lib.hid (HWr.out.trans hq5)
            have HF5 := Lib.hid hf5
            clear hq5 hf5
            go_wp2_with fail
            go_ret2
            unfold CanPost
            rw [HNone.out]
            exact ⟨⟨b5, rfl, HF5.out⟩, HQ5.out⟩
          · rw [hfl] at HFd
            have hvl := HFV.out bodySumL v hfl
            have HSome : Hid (canonQ ⟨m, tg, minor, fs, body, close⟩ names = some (Lib.join ([m, E, C] ++ ls ++ [[], Lib.join names [59], v]) [10])) := Lib.hid ((HCQ.out _).2 (by rw [HLs.out, hfl, HHd.out]))
            have hjl : (Lib.join names [59]).length ≤ 20000000 := by
              have := sum_len_join 59 names; omega
            have HJJ := Lib.hid (fun W (h : NmAt W B q names) => join_nm B q kc names [59] W h hkc (by omega) (by omega))
            generalize Lib.join names [59] = SJ at HSome hjl HJJ
            clear hfl HL HLs HTK
            go_wp2_with fail
            refine (HFd.out _ (HF.out.q HWr.out)).mono ?_
            rintro e w2 ⟨rfl, hq2⟩
            have HX2 := Lib.hid (HX.out.trans hq2)
            have HO2 := Lib.hid (HO.out.q hq2)
            have HW2 := Lib.hid (HWr.out.trans hq2)
            clear hq2 HX HO HFd HWr
            go_wp2_with fail
            refine (HJJ.out _ (HNM.out.q HW2.out)).mono ?_
            rintro e w3 ⟨rfl, hq3⟩
            have HX3 := Lib.hid (HX2.out.trans hq3)
            have HO3 := Lib.hid (HO2.out.q hq3)
            clear hq3 HX2 HO2 HJJ c3 HNMl
            have HUS : Hid ((([m, E, C] ++ ls).map strV).length ≤ 1100000) := Lib.hid (by have := HLL.out; simp; omega)
            go_wp2_with (at_builtin; refine wpList_append_tn rfl (.tmp 83) (.tmp 87) rfl w0 w3 _ _ [[], SJ, v] 3 rfl (by decide) rfl HO3.out rfl HX3.out.size HUS.out ?_)
            intro v9 w9 ho9 hg9
            have HX9 := Lib.hid (gb_q_own hg9 HX3.out (fun k hk => HO3.out.block hk))
            have HO9 : OwnS 9 w0 w9 v9 (([m, E, C] ++ ls ++ [[], SJ, v]).map strV) := by simpa using ho9
            have hsm : sumU ([m, E, C] ++ ls ++ [[], SJ, v]) ≤ 100000000000000 := by
              have h1 := sumU_le ls 30000000 HLB.out
              have h2 := HLL.out
              rw [h2] at h1
              have h3 : q * 30000001 ≤ 1060000 * 30000001 := Nat.mul_le_mul_right _ hk
              simp [sumU] at h1 ⊢; omega
            have hll : ([m, E, C] ++ ls ++ [[], SJ, v]).length ≤ 1100000 := by have := HLL.out; simp; omega
            have HW9 := Lib.hid (HW0.out.trans HX9.out)
            obtain ⟨A9, c9, rfl, hc9, hn9⟩ := HO9.nm
            have HN9 := Lib.hid hn9
            clear ho9 hg9 HO3 HX3 HLL HLB HUS HX9 HO9 hn9
            generalize [m, E, C] ++ ls ++ [[], SJ, v] = ALL at *
            have HJA := Lib.hid (fun W (h : NmAt W A9 ALL.length ALL) => join_nm A9 ALL.length c9 ALL [10] W h hc9 (by have := sum_len_join 10 ALL; omega) (by omega))
            generalize Lib.join ALL [10] = RES at HJA HSome
            clear hsm
            go_wp2_with fail
            refine (HJA.out _ HN9.out).mono ?_
            rintro e w10 ⟨rfl, hq10⟩
            have HW10 := Lib.hid (HW9.out.trans hq10)
            clear hq10
            go_wp2_with fail
            go_ret2
            unfold CanPost
            rw [HSome.out]
            exact ⟨rfl, HW10.out⟩
    · have HQ : Hid (canonQ ⟨m, tg, minor, fs, body, close⟩ names = none) := Lib.hid (by unfold canonQ; rw [if_neg (fun h => hn h.2)])
      have HNO := Lib.hid hn
      clear hnl hf hnm hS hn
      unfold reqC
      go_enter Tryz.func30, Tryz.ntmps30
      go_wp2_with fail
      refine (HT.out _ (HS.out.u.q HW0.out)).mono ?_
      rintro e w2 ⟨v7, rfl, ho7, hq2⟩
      have HW2 := Lib.hid (HW0.out.trans hq2)
      clear hq2 ho7 c1
      go_wp2_with fail
      refine (HN.out _ (HNM.out.q HW2.out)).mono ?_
      rintro e w3 ⟨⟨rr, rfl, hr⟩, hq3⟩
      obtain rfl : rr = false := by
        rcases rr with _ | _
        · rfl
        · exact absurd (hr.1 rfl) HNO.out
      have HW := Lib.hid (HW2.out.trans hq3)
      clear hq3 hr
      go_wp2_with fail
      refine (HST.out _).mono ?_
      rintro e w5 ⟨⟨b5, rfl, hf5⟩, hq5⟩
      have HQ5 := Lib.hid (HW.out.trans hq5)
      have HF5 := Lib.hid hf5
      clear hq5 hf5
      go_wp2_with fail
      go_ret2
      unfold CanPost
      rw [HQ.out]
      exact ⟨⟨b5, rfl, HF5.out⟩, HQ5.out⟩
  · have HQ : Hid (canonQ ⟨m, tg, minor, fs, body, close⟩ names = none) := Lib.hid (by unfold canonQ; rw [if_neg (fun h => he h.1)])
    obtain ⟨⟨path, qs, ee, aa⟩, hT⟩ : ∃ T, tgtL tg = T := ⟨_, rfl⟩
    rw [hT] at HT he
    simp only at HT he
    have q1 : ((ee : Int) == 0) = false := by rw [beq_eq_false_iff_ne]; omega
    have q2 : ((ee : Int) != 0) = true := by simp [bne, q1]
    have q3 : ¬ (ee : Int) = 0 := by omega
    clear hT hnl hf hnm hS he
    unfold reqC
    go_enter Tryz.func30, Tryz.ntmps30
    go_wp2_with fail
    refine (HT.out _ (HS.out.u.q HW0.out)).mono ?_
    rintro e w2 ⟨v7, rfl, ho7, hq2⟩
    have HW := Lib.hid (HW0.out.trans hq2)
    clear hq2 ho7
    go_wp2_with fail
    refine (HST.out _).mono ?_
    rintro e w5 ⟨⟨b5, rfl, hf5⟩, hq5⟩
    have HQ5 := Lib.hid (HW.out.trans hq5)
    have HF5 := Lib.hid hf5
    clear hq5 hf5
    go_wp2_with fail
    go_ret2
    unfold CanPost
    rw [HQ.out]
    exact ⟨⟨b5, rfl, HF5.out⟩, HQ5.out⟩
end Go.Proofs.YtmmoenbmgcplkaaGreatDoor
set_option linter.unusedVariables false
set_option linter.unusedSimpArgs false
namespace Go.Proofs.YtmmoenbmgcplkaaGreatDoor
open Go Go.RowKit
theorem eq_nilU (a : Addr) (n cap : Nat) (w : World) : (binOp BinOp.eql 22 (.slice (some a) n cap) (.slice none 0 0)).run Tryz.prog w = .ok (.bool false) w := by kernel_rfl
theorem eq_nilU0 (n cap : Nat) (w : World) : (binOp BinOp.eql 22 (.slice none n cap) (.slice none 0 0)).run Tryz.prog w = .ok (.bool true) w := by kernel_rfl
theorem PairsAt.rowU {w : World} {ad : Addr} {n : Nat} {ps : List PairD} (h : PairsAt w (some ad) n ps) : ∀ j u, (cellsU ps)[j]? = some u → w.cell? (ad.add j) = some u := by
  intro j u hj
  have hlen := h.1
  rcases ps.eq_nil_or_concat with rfl | hne
  · simp [cellsU] at hj
  have hpos : 0 < n := by obtain ⟨a, b, rfl⟩ := hne; simp at hlen; omega
  clear hne
  have hjl : j < ps.length * 2 := by
    have := (List.getElem?_eq_some_iff.1 hj).1
    rwa [cellsU_len] at this
  have hk : j / 2 < n := by omega
  obtain ⟨g, off, e, h0, h1⟩ := h.at hk
  injection e with e; subst e
  have hd : j / 2 * 2 + j % 2 = j := by omega
  have hm : j % 2 < 2 := by omega
  have hc := cellsU_at ps (j / 2) (by omega) (j % 2) hm
  rw [hd, hj] at hc
  have ea : (Addr.add ⟨g, off, none⟩ j) = ⟨g, off + j, none⟩ := by unfold Addr.add; split <;> simp_all
  rw [ea]
  rw [gU_get _ _ (by omega)] at h0 h1
  rcases (by omega : j % 2 = 0 ∨ j % 2 = 1) with e | e
  · rw [e] at hc
    rw [show off + j = off + j / 2 * 2 by omega, h0]; exact hc.symm
  · rw [e] at hc
    rw [show off + j = off + j / 2 * 2 + 1 by omega, h1]; exact hc.symm
set_option maxRecDepth 100000 in
set_option maxHeartbeats 2000000 in
theorem CloneU_any (A : Option Addr) (n cap : Nat) (ps : List PairD) (w : World) (h : PairsAt w A n ps) (hn : n * 32 ≤ 140737488355328) :
    Calls Tryz.prog 27 #[.slice A n cap] w fun e w' => (∃ v, e = .returned v ∧ OwnU w w' v ps) ∧ Q w w' := by
  have HH := Lib.hid h
  have hlen := h.1
  clear h
  rcases A with _ | a
  · have hen := eq_nilU0
    have hp : ps = [] := by
      rcases Nat.eq_zero_or_pos n with h0 | h0
      · rw [h0] at hlen; exact List.length_eq_zero_iff.1 hlen.symm
      · obtain ⟨g, off, e, _⟩ := HH.out.2 h0; cases e
    have HP := Lib.hid hp
    clear hp hlen
    go_enter Tryz.func27, Tryz.ntmps27
    go_wp2_with fail
    go_ret
    rw [HP.out]
    exact ⟨⟨_, rfl, OwnU.nil _ _⟩, Q.refl _⟩
  · have hen := eq_nilU
    have HL := Lib.hid hlen
    clear hlen
    have ho0 : OwnU w (w.alloc (.cells #[] 37)) (.slice (some ⟨w.heap.size, 0, none⟩) 0 0) [] := ⟨rfl, .inr ⟨w.heap.size, 0, #[], rfl, Nat.le_refl _, (MapKept.heap_alloc w _).1, Nat.le_refl _, by unfold maxLen; omega, rfl, rfl⟩⟩
    have hp0 : PairsAt (w.alloc (.cells #[] 37)) (some a) n ps := HH.out.q ((Q.refl w).alloc _)
    go_enter Tryz.func27, Tryz.ntmps27
    go_wp2_with (at_builtin; refine wpList_append_us rfl (.tmp 5) (.tmp 6) rfl w (w.alloc (.cells #[] 37)) _ [] ps (by rfl) ho0 a n cap HL.out.symm (by rfl) hp0.rowU ((Q.refl w).alloc _).size (by simp; omega) ?_; intro v5 w5 ho5 hg5; have HO5 := Lib.hid ho5; have HQ5 : Hid (Q w w5) := Lib.hid (gb_q_own hg5 ((Q.refl w).alloc _) (fun k hk => ho0.block hk |>.1)); clear ho5 hg5)
    go_ret
    exact ⟨⟨_, rfl, HO5.out⟩, HQ5.out⟩
theorem ReqCells {w : World} {N : Nat} {v0 v1 v2 v3 v4 v5 : Value} {e : TypeId} {z : Nat × Nat} (h : w.heap[N]? = some (.cells (Array.mk [v0, v1, v2, v3, v4, v5]) e z)) :
    w.cell? ⟨N, 0, none⟩ = some v0 ∧ w.cell? ⟨N, 1, none⟩ = some v1 ∧ w.cell? ⟨N, 2, none⟩ = some v2 ∧ w.cell? ⟨N, 3, none⟩ = some v3 ∧ w.cell? ⟨N, 4, none⟩ = some v4 ∧ w.cell? ⟨N, 5, none⟩ = some v5 := by
  refine ⟨?_, ?_, ?_, ?_, ?_, ?_⟩ <;> (rw [cell_of_row _ _ _ _ _ _ h]; rfl)
theorem ReqBox (w : World) (r : ReqD) (A : Option Addr) (n c : Nat) : (w.alloc (.cells (reqC r A n c).toArray 24)).heap[w.heap.size]? = some (.cells (reqC r A n c).toArray 24 (0, 0)) := (MapKept.heap_alloc w _).1
set_option maxRecDepth 100000 in
set_option maxHeartbeats 2000000 in
theorem Canonical_any (r : ReqD) (A : Option Addr) (n c : Nat) (B : Option Addr) (k kc : Nat) (names : List (List UInt8)) (w : World) (hf : PairsAt w A n r.fs) (hc : n ≤ c) (hcap : c ≤ 9223372036854775807) (hok : ReqOk r)
    (hnm : NmAt w B k names) (hkc : k ≤ kc) (hk : k ≤ 1060000) (hnb : sumU names ≤ 10000000) (hS : S17 w) :
    Calls Tryz.prog 13 #[.agg (reqC r A n c).toArray, .slice B k kc] w fun e w' => e = .returned (match canonQ r names with | some s => .tuple #[.string ⟨s.toArray⟩, .int .i64 0] | none => .tuple #[.string ⟨#[]⟩, .int .i64 1]) ∧ Q w w' := by
  have HC := Lib.hid (fun W (hq : Q w W) => canonical_any r A n c B k kc names W (hf.q hq) hc hcap hok (hnm.q hq) hkc hk hnb (hS.q hq))
  unfold CanPost at HC
  have HS := Lib.hid hS
  obtain ⟨q, hqq⟩ : ∃ q, canonQ r names = q := ⟨_, rfl⟩
  rw [hqq] at HC ⊢
  obtain ⟨w0, hw0⟩ : ∃ W, w.alloc (.cells (reqC r A n c).toArray 24) = W := ⟨_, rfl⟩
  have HB := ReqBox w r A n c
  have hq0 : Q w w0 := by rw [← hw0]; exact (Q.refl w).alloc _
  have HQ0 := Lib.hid hq0
  rw [hw0] at HB
  clear hf hnm hok hqq hS hq0
  obtain ⟨m, tg, minor, fs, body, close⟩ := r
  have hw0b : w.alloc (.cells #[.string ⟨m.toArray⟩, .string ⟨tg.toArray⟩, .int .i64 minor, .slice A n c, .string ⟨body.toArray⟩, .bool close] 24) = w0 := hw0
  obtain ⟨N0, hN0⟩ : ∃ G, w.heap.size = G := ⟨_, rfl⟩
  rw [hN0] at HB
  simp only [reqC] at HB
  clear hw0
  unfold reqC
  unfold reqC at HC
  obtain ⟨b0, b1, b2, b3, b4, b5⟩ := ReqCells HB
  go_enter Tryz.func13, Tryz.ntmps13
  go_wp2_with fail
  refine (HC.out _ HQ0.out).mono ?_
  rcases q with _ | s
  · rintro e w2 ⟨⟨b, rfl, hfa⟩, hq2⟩
    have HW := Lib.hid (fun W (hq : Q w2 W) => why_fault b 1 0 W (hfa.q hq) ((HS.out.q (HQ0.out.trans (hq2.trans hq))).et))
    have HQ2 := Lib.hid (HQ0.out.trans hq2)
    clear hfa hq2 b0 b1 b2 b3 b4 b5
    go_wp2_with fail
    refine (HW.out _ (Q.refl _)).mono ?_
    rintro e w3 ⟨rfl, hq3⟩
    have HQ3 := Lib.hid (HQ2.out.trans hq3)
    clear hq3
    go_wp2_with fail
    go_ret2
    exact ⟨rfl, HQ3.out⟩
  · rintro e w2 ⟨rfl, hq2⟩
    have HQ2 := Lib.hid (HQ0.out.trans hq2)
    clear hq2 b0 b1 b2 b3 b4 b5
    go_wp2_with fail
    refine (why_nil _).mono ?_
    rintro e w3 ⟨rfl, hq3⟩
    have HQ3 := Lib.hid (HQ2.out.trans hq3)
    clear hq3
    go_wp2_with fail
    go_ret2
    exact ⟨rfl, HQ3.out⟩
end Go.Proofs.YtmmoenbmgcplkaaGreatDoor
set_option linter.unusedVariables false
namespace Go.Proofs.YtmmoenbmgcplkaaGreatDoor
open Go Go.RowKit
section
variable {P : Program} {ops : Array Oper} {R : Exit → Act → World → Prop} {S : World → Prop}
def wpAnyZ (P : Program) (ops : Array Oper) (R : Exit → Act → World → Prop) (S : World → Prop) (zs : List Nat) : Nat → Array Bool → Act → World → Prop
  | 0, ls, a, w => Region.ready .any ops ls = [] ∧ R .normal a w
  | f + 1, ls, a, w => (Region.ready .any ops ls = [] → R .normal a w) ∧ ∀ i ∈ Region.ready .any ops ls, wpOp P ops R i (fun a' w' => if i ∈ zs then wpAny P .any ops R f (ls.setIfInBounds i true) a' w' else S w' ∧ wpAnyZ P ops R S zs f (ls.setIfInBounds i true) a' w') a w
theorem wpAny_of_Z {zs : List Nat} : ∀ (f : Nat) (ls : Array Bool) (a : Act) (w : World), wpAnyZ P ops R S zs f ls a w → wpAny P .any ops R f ls a w
  | 0, _, _, _, h => h
  | f + 1, ls, _, _, h => ⟨h.1, fun i hi => wpOp_mono (fun a' w' h' => by
      by_cases e : i ∈ zs
      · rw [if_pos e] at h'; exact h'
      · rw [if_neg e] at h'; exact wpAny_of_Z f _ a' w' h'.2) (h.2 i hi)⟩
structure ClosedL (ops : Array Oper) (ls : Array Bool) : Prop where
  size : ls.size = ops.size
  closed : ∀ j oj, ops[j]? = some oj → ls.getD j false = true → ∀ e ∈ oj.after, Region.binds .any e = true → ls.getD e.on false = true
theorem ClosedL.set {ls : Array Bool} {i : Nat} (inv : ClosedL ops ls) (hi : i ∈ Region.ready .any ops ls) : ClosedL ops (ls.setIfInBounds i true) := by
  obtain ⟨_, oi, hoi, hall⟩ := mem_ready.1 hi
  refine ⟨by simp [inv.size], fun j oj hj hl e he hb => ?_⟩
  by_cases hij : i = j
  · subst hij
    have : oj = oi := Option.some.inj (hj.symm.trans hoi)
    subst this
    exact getD_set_true (hall e he hb)
  · rw [getD_set_ne false hij] at hl
    exact getD_set_true (inv.closed j oj hj hl e he hb)
theorem sink_all {qs : List Nat} {z : Nat} {ls : Array Bool} {N : Nat} (hN : ∀ i ∈ z :: qs, i < N) (hs : sinkL ops qs z = true) (hsz : ∀ i ∈ z :: qs, i < ops.size) (inv : ClosedL ops ls) (hz : z ∈ Region.ready .any ops ls) :
    ∀ (d i : Nat), N - i = d → i ∈ qs → ls.getD i true = false → False := by
  intro d
  induction d using Nat.strongRecOn with
  | _ d ih =>
    intro i hd hi hun
    have h1 := List.all_eq_true.1 hs i hi
    obtain ⟨j, hj, hj2⟩ := List.any_eq_true.1 h1
    simp only [Bool.and_eq_true, decide_eq_true_eq] at hj2
    obtain ⟨oj, hoj, e, he, hb, hon⟩ := Region.waitsFor_spec hj2.2
    have hjN := hN j hj
    rcases List.mem_cons.1 hj with hjt | hjt
    · subst hjt
      obtain ⟨_, oz, hoz, hall⟩ := mem_ready.1 hz
      have : oj = oz := Option.some.inj (hoj.symm.trans hoz)
      subst this
      have h2 := hall e he hb
      rw [hon, getD_both hun] at h2
      cases h2
    · cases hl : ls.getD j false with
      | true =>
        have h2 := inv.closed j oj hoj hl e he hb
        rw [hon, getD_both hun] at h2
        cases h2
      | false =>
        have hjs : j < ls.size := by rw [inv.size]; exact hsz j hj
        exact ih (N - j) (by omega) j rfl hjt (getD_in hjs hl)
theorem yields_all {o : Oper} {v : Value} {a : Act} (h : YieldsIf P ops (fun _ => True) o v a) : Yields P ops o v a := h.imp (fun ⟨hw, hv⟩ => ⟨hw, fun w => hv w trivial⟩) id
theorem wpAnyZ_first {zs : List Nat} {i : Nat} {oi : Oper} {v : Value} {T : World → Prop} (hi : ops[i]? = some oi) (hsel : ∀ (j : Nat) (o : Oper) cs b, ops[j]? = some o → o.op ≠ .select cs b)
    (hQ : ∀ c a w, R (.panic c) (a.put oi.dst v) w → R (.panic c) a w) (hiz : i ∉ zs) (hT : ∀ w, S w → T w) (hz : (∀ ls, ClosedL ops ls → ls.getD i true = false → ∀ z ∈ zs, z ∉ Region.ready .any ops ls) ∨ ∀ w, T w) :
    ∀ (fuel : Nat) (ls : Array Bool) (a : Act) (w : World), ClosedL ops ls →
      (∀ j oj, ops[j]? = some oj → j ≠ i → ls.getD j true = false → (∀ e ∈ oj.after, Region.binds .any e = true → e.on ≠ i) → oi.apart ops oj = true) →
      i ∈ Region.ready .any ops ls → YieldsIf P ops T oi v a → S w →
      wpAnyZ P ops R S zs fuel (ls.setIfInBounds i true) (a.put oi.dst v) w → wpAnyZ P ops R S zs (fuel + 1) ls a w := by
  intro fuel
  induction fuel with
  | zero =>
    intro ls a w inv _ hr hy hS H
    refine ⟨fun h => (by rw [h] at hr; cases hr), fun j hj => ?_⟩
    by_cases hji : j = i
    · subst hji; exact hy.wpOp hi (hT w hS) (by rw [if_neg hiz]; exact ⟨hS, H⟩)
    · have := ready_mono hj hji
      rw [H.1] at this
      cases this
  | succ fuel ih =>
    intro ls a w inv hfree hr hy hS H
    have hun := (mem_ready.1 hr).1
    refine ⟨fun h => (by rw [h] at hr; cases hr), fun j hj => ?_⟩
    by_cases hji : j = i
    · subst hji; exact hy.wpOp hi (hT w hS) (by rw [if_neg hiz]; exact ⟨hS, H⟩)
    · have h1 := H.2 j (ready_mono hj hji)
      obtain ⟨hjun, oj, hoj, hall⟩ := mem_ready.1 hj
      have hnot : ∀ e ∈ oj.after, Region.binds .any e = true → e.on ≠ i := fun e he hb heq => by
        have h2 := hall e he hb
        rw [heq, getD_both hun] at h2
        cases h2
      have h2 := wpOp_putIf hoj (hfree j oj hoj hji hjun hnot) (fun cs b => hsel i oi cs b hi) (fun cs b => hsel j oj cs b hoj) hQ hy h1
      have hfree' : ∀ k ok, ops[k]? = some ok → k ≠ i → (ls.setIfInBounds j true).getD k true = false →
          (∀ e ∈ ok.after, Region.binds .any e = true → e.on ≠ i) → oi.apart ops ok = true := fun k ok hk hki hku hno => by
        refine hfree k ok hk hki ?_ hno
        by_cases hjk : j = k
        · subst hjk; exact hjun
        · rw [getD_set_ne true hjk] at hku; exact hku
      by_cases hjz : j ∈ zs
      · have hTT : ∀ w, T w := hz.elim (fun h => absurd hj (h ls inv hun j hjz)) id
        refine wpOp_mono (fun a' w' h3 => ?_) h2
        rw [if_pos hjz] at h3 ⊢
        refine wpAny_first hi hsel hQ _ _ _ _ hfree' (ready_mono hr (Ne.symm hji)) (yields_all ?_) ?_
        · exact h3.1.imp (fun ⟨hw, hv⟩ => ⟨hw, fun w _ => hv w (hTT w)⟩) id
        · rw [Array.setIfInBounds_comm _ _ hji]; exact h3.2
      · refine wpOp_mono (fun a' w' h3 => ?_) h2
        rw [if_neg hjz] at h3 ⊢
        refine ⟨h3.2.1, ih (ls.setIfInBounds j true) a' w' (inv.set hj) hfree' (ready_mono hr (Ne.symm hji)) h3.1 h3.2.1 ?_⟩
        rw [Array.setIfInBounds_comm _ _ hji]
        exact h3.2.2
theorem headZ {zs : List Nat} {T : World → Prop} (hsel : Region.noSelect ops = true) (hQ : ∀ c a d v w, R (.panic c) (Act.put a d v) w → R (.panic c) a w) (hT : ∀ w, S w → T w) (hd : List Nat) (hz : (∀ i ∈ hd, ∀ ls, ClosedL ops ls → ls.getD i true = false → ∀ z ∈ zs, z ∉ Region.ready .any ops ls) ∨ ∀ w, T w) (f : Nat) (w : World) (hS : S w) : ∀ (ls : Array Bool) (a : Act), ClosedL ops ls → (∀ i ∈ hd, i ∉ zs) → pureB .any ops hd ls = true →
    wpQuiet P ops T (fun a' => ClosedL ops (markB hd ls) → wpAnyZ P ops R S zs f (markB hd ls) a' w) (hd.map (ops.getD · default)) a → wpAnyZ P ops R S zs (hd.length + f) ls a w := by
  induction hd with
  | nil => intro ls a inv _ hB h; rw [List.length_nil, Nat.zero_add]; exact h inv
  | cons k r ih =>
    intro ls a inv hzn hB h
    simp only [pureB, Bool.and_eq_true] at hB
    have hzk : k ∉ zs := hzn k (by simp)
    have hzr : ∀ i ∈ r, i ∉ zs := fun i e => hzn i (List.mem_cons_of_mem _ e)
    have ih := ih (hz.imp (fun h i hi => h i (List.mem_cons_of_mem _ hi)) id)
    have hkz := hz.imp (fun h => h k (by simp)) id
    have hkr : k ∈ Region.ready .any ops ls := by simpa using hB.1.2
    cases ho : ops[k]? with
    | none => rw [ho] at hB; simp at hB
    | some o =>
      rw [ho] at hB
      have hk : ops.getD k default = o := by simp [Array.getD_eq_getD_getElem?, ho]
      rw [List.map_cons, hk] at h
      have h2 : if Region.wanted o (yielded ops a.tmps) then o.quiet P a T (wpQuiet P ops T (fun a' => ClosedL ops (markB (k :: r) ls) → wpAnyZ P ops R S zs f (markB (k :: r) ls) a' w) (r.map (ops.getD · default)))
        else wpQuiet P ops T (fun a' => ClosedL ops (markB (k :: r) ls) → wpAnyZ P ops R S zs f (markB (k :: r) ls) a' w) (r.map (ops.getD · default)) (a.put o.dst undef) := h
      rw [List.length_cons, Nat.add_right_comm]
      split at h2
      · next hw =>
        obtain ⟨v, hv, hn⟩ := h2
        refine wpAnyZ_first ho (Region.noSelect_spec hsel) (fun c a w => hQ c a _ _ w) hzk hT hkz _ ls a w inv (Region.free_spec ho hB.1.1.2) hkr (.inl ⟨hw, fun w' hw' => ?_⟩) hS (ih _ _ (inv.set hkr) hzr hB.2 hn)
        have h3 := hv w' hw'
        unfold Oper.quietAt at h3
        cases hr : (execOp a.eval o).run P w' with
        | halt x u => rw [hr] at h3; simp only [Oper.quietUpon] at h3
        | ok n u =>
          obtain ⟨x, rfl⟩ := pure_run hB.1.1.1 hr
          rw [hr] at h3
          simp only [Oper.quietUpon] at h3
          rw [h3.1, h3.2]
      · next hw =>
        exact wpAnyZ_first ho (Region.noSelect_spec hsel) (fun c a w => hQ c a _ _ w) hzk hT hkz _ ls a w inv (Region.free_spec ho hB.1.1.2) hkr (.inr ⟨by simpa using hw, rfl⟩) hS (ih _ _ (inv.set hkr) hzr hB.2 h2)
theorem chainZ {zs : List Nat} (f : Nat) (tl : List Nat) : ∀ (ls : Array Bool) (a : Act) (w : World) (E : Act → World → Prop), S w → ClosedL ops ls → (∀ i ∈ tl, i ∉ zs) → forcedB ops tl ls = true → (∀ a w, S w → ClosedL ops (markB tl ls) → E a w → wpAnyZ P ops R S zs f (markB tl ls) a w) →
    wpListK P ops R S E (tl.map (ops.getD · default)) a w → wpAnyZ P ops R S zs (tl.length + f) ls a w := by
  induction tl with
  | nil => intro ls a w E hS inv _ hB hE h; rw [List.length_nil, Nat.zero_add]; exact hE a w hS inv h
  | cons k r ih =>
    intro ls a w E hS inv hzn hB hE h
    simp only [forcedB, Bool.and_eq_true, decide_eq_true_eq] at hB
    rw [List.length_cons, Nat.add_right_comm]
    refine ⟨fun h0 => (by rw [hB.1.1] at h0; cases h0), fun i hi => ?_⟩
    have hi' := hi
    rw [hB.1.1] at hi
    have e : i = k := by simpa using hi
    subst e
    obtain ⟨o, ho⟩ := Option.isSome_iff_exists.1 hB.1.2
    have hk : ops.getD i default = o := by simp [Array.getD_eq_getD_getElem?, ho]
    rw [List.map_cons, hk] at h
    exact wpOp_of_one ho (h _ (fun a' w' hs h' => by rw [if_neg (hzn i (by simp))]; exact ⟨hs, ih _ a' w' E hs (inv.set hi') (fun j hj => hzn j (List.mem_cons_of_mem _ hj)) hB.2 hE h'⟩))
def wpFin (P : Program) (ops : Array Oper) (R : Exit → Act → World → Prop) (S : World → Prop) (zs : List Nat) : List (List Nat × List Nat) → Act → World → Prop
  | [], a, w => wpList P ops R (zs.map (ops.getD · default)) a w
  | (hd, tl) :: ps, a, w => wpQuiet P ops S (fun a' => wpListK P ops R S (wpFin P ops R S zs ps) (tl.map (ops.getD · default)) a' w) (hd.map (ops.getD · default)) a
def finB (ops : Array Oper) (zs : List Nat) : List (List Nat × List Nat) → Array Bool → Bool
  | [], ls => tailB .any ops zs ls && (Region.ready .any ops ls).all (zs.contains ·)
  | (hd, tl) :: ps, ls => (hd ++ tl).all (fun i => !zs.contains i) && pureB .any ops hd ls && forcedB ops tl (markB hd ls) && finB ops zs ps (markB tl (markB hd ls))
theorem not_mem_of {zs l : List Nat} (h : l.all (fun i => !zs.contains i) = true) : ∀ i ∈ l, i ∉ zs := fun i hi he => by
  have := List.all_eq_true.1 h i hi
  rw [List.contains_iff_mem.2 he] at this
  cases this
theorem any_fin {zs : List Nat} (hsel : Region.noSelect ops = true) (hQ : ∀ c a d v w, R (.panic c) (Act.put a d v) w → R (.panic c) a w)
    (ps : List (List Nat × List Nat)) (hz : ∀ p ∈ ps, ∀ i ∈ p.1, ∀ ls, ClosedL ops ls → ls.getD i true = false → ∀ z ∈ zs, z ∉ Region.ready .any ops ls) : ∀ (ls : Array Bool) (a : Act) (w : World), S w → ClosedL ops ls → finB ops zs ps ls = true →
    wpFin P ops R S zs ps a w → wpAnyZ P ops R S zs (planN ps + zs.length) ls a w := by
  induction ps with
  | nil =>
    intro ls a w hS inv hB h
    simp only [finB, Bool.and_eq_true] at hB
    have h1 := wpAny_of_held _ _ _ _ (any_tail zs ls a w hB.1 h)
    have e : planN [] + zs.length = zs.length := by simp [planN]
    rw [e]
    generalize zs.length = f at h1
    cases f with
    | zero => exact h1
    | succ f =>
      refine ⟨h1.1, fun i hi => wpOp_mono (fun a' w' h' => ?_) (h1.2 i hi)⟩
      rw [if_pos (by simpa using List.all_eq_true.1 hB.2 i hi)]
      exact h'
  | cons p ps ih =>
    obtain ⟨hd, tl⟩ := p
    intro ls a w hS inv hB h
    simp only [finB, Bool.and_eq_true] at hB
    have hn := not_mem_of hB.1.1.1
    have e : planN ((hd, tl) :: ps) + zs.length = hd.length + (tl.length + (planN ps + zs.length)) := by simp [planN]; omega
    rw [e]
    refine headZ hsel hQ (T := S) (fun _ h => h) hd (.inl (hz (hd, tl) (by simp))) _ w hS ls a inv (fun i hi => hn i (by simp [hi])) hB.1.1.2 ?_
    exact wpQuiet_mono (fun a' h' inv' => chainZ _ tl _ a' w _ hS inv' (fun i hi => hn i (by simp [hi])) hB.1.2 (fun a w hs inv2 he => ih (fun p hp => hz p (List.mem_cons_of_mem _ hp)) _ a w hs inv2 hB.2 he) h') _ _ h
end
theorem wp_fin {P : Program} {id : Nat} {R : Exit → Act → World → Prop} {a : Act} {w : World} {l : List Oper} (p0 : List Nat) (ps : List (List Nat × List Nat)) (zs : List Nat) (hm : P.follows .mixedOrders = true)
    (hB : (Region.noSelect l.toArray && pureB .any l.toArray p0 (Array.replicate l.length false) && p0.all (fun i => !zs.contains i) && finB l.toArray zs ps (markB p0 (Array.replicate l.length false)) && decide (p0.length + (planN ps + zs.length) = l.length)
      && ps.all (fun p => p.1.all fun i => decide (i < l.length)) && zs.all (fun z => decide (z < l.length) && sinkL l.toArray ((List.range l.length).filter fun i => !p0.contains i && decide (i < z)) z && ps.all fun p => p.1.all fun i => decide (i < z) && !p0.contains i)) = true)
    (hQ : ∀ c a d v w, R (.panic c) (Act.put a d v) w → R (.panic c) a w)
    (h : wpQuiet P l.toArray (fun _ => True) (fun a' => wpFin P l.toArray R (fun w' => ∃ m : QW w, w' = m.val) zs ps a' w.drew) (p0.map (l.toArray.getD · default)) a) : (Code.region id l.toArray true).wp P R a w := by
  simp only [Bool.and_eq_true, decide_eq_true_eq] at hB
  obtain ⟨⟨⟨⟨⟨⟨h1, h2⟩, h3⟩, h4⟩, h5⟩, h6⟩, h7⟩ := hB
  have hz : ∀ p ∈ ps, ∀ i ∈ p.1, ∀ ls, ClosedL l.toArray ls → ls.getD i true = false → ∀ z ∈ zs, z ∉ Region.ready .any l.toArray ls := fun p hp i hi ls inv hun z hzz hr => by
    have h8 := List.all_eq_true.1 h7 z hzz
    simp only [Bool.and_eq_true, decide_eq_true_eq] at h8
    have h9 := List.all_eq_true.1 (List.all_eq_true.1 h8.2 p hp) i hi
    simp only [Bool.and_eq_true, decide_eq_true_eq] at h9
    have hb : ∀ j ∈ z :: ((List.range l.length).filter fun i => !p0.contains i && decide (i < z)), j < l.length := fun j hj => by
      rcases List.mem_cons.1 hj with e | e
      · omega
      · exact List.mem_range.1 (List.mem_filter.1 e).1
    refine sink_all (N := l.length) hb h8.1.2 (fun j hj => by have := hb j hj; simpa using this) inv hr _ i rfl (List.mem_filter.2 ⟨List.mem_range.2 (by omega), ?_⟩) hun
    simp only [Bool.and_eq_true, decide_eq_true_eq]
    exact ⟨h9.2, h9.1⟩
  have inv0 : ClosedL l.toArray (Array.replicate l.length false) := ⟨by simp, fun j oj hj hl => by
      rw [Array.getD_eq_getD_getElem?] at hl
      by_cases hjl : j < l.length
      · simp [hjl] at hl
      · simp [hjl] at hl⟩
  have hS : (fun w' => ∃ m : QW w, w' = m.val) w.drew := ⟨⟨w.drew, (Q.refl w).drew⟩, rfl⟩
  refine wp_region_any hm (wpAny_of_Z (S := fun w' => ∃ m : QW w, w' = m.val) (zs := zs) _ _ _ _ ?_)
  have := headZ (zs := zs) (S := fun w' => ∃ m : QW w, w' = m.val) (T := fun _ => True) h1 hQ (fun _ _ => trivial) p0 (.inr fun _ => trivial) (planN ps + zs.length) w.drew hS _ a inv0 (not_mem_of h3) h2
    (wpQuiet_mono (fun a' h' inv' => any_fin h1 hQ ps hz _ a' w.drew hS inv' h4 h') _ _ h)
  rw [h5] at this
  exact this
end Go.Proofs.YtmmoenbmgcplkaaGreatDoor
set_option linter.unusedVariables false
set_option linter.unusedSimpArgs false
namespace Go.Proofs.YtmmoenbmgcplkaaGreatDoor
open Go Go.RowKit
theorem results_cell_row2 {P : Program} {fn : Func} {p s : Tmp} {ty : TypeId} (h : fn.results = #[.cell p ty, .tmp s]) (tmps : Array Value) (w : World) (g : Nat) (t : TypeId) (cs : Array Value) (fr : Nat × Nat) (d : TypeDesc) (x : Value)
    (hp : tmps.getD p undef = .pointer (some ⟨g, 0, none⟩)) (hs : tmps.getD s undef = x) (hg : w.heap[g]? = some (.cells cs t fr))
    (hu : P.underlying ty = some d) (hd : (match d with | .struct _ | .array _ _ => true | _ => false) = true) (hi : (P.info? ty).map (·.size) = some cs.size) :
    (results fn tmps).run P w = .ok (.tuple #[.agg cs, x]) w := by
  have hp' : tmps[p]?.getD undef = .pointer (some ⟨g, 0, none⟩) := by simpa using hp
  have hs' : tmps[s]?.getD undef = x := by simpa using hs
  simp [results, h, hp', hs', asAddr, run_loadVar_row w g t ty cs fr d hg hu hd hi]
structure UserD where
  name : List UInt8
  id : List UInt8
  sec : List UInt8
deriving DecidableEq
def userC (u : UserD) : List Value := [.string ⟨u.name.toArray⟩, .string ⟨u.id.toArray⟩, .string ⟨u.sec.toArray⟩]
def reqV (r : ReqD) (v : Value) : List Value := [.string ⟨r.m.toArray⟩, .string ⟨r.tg.toArray⟩, .int .i64 r.minor, v, .string ⟨r.body.toArray⟩, .bool r.close]
def zeroR : ReqD := ⟨[], [], 0, [], [], false⟩
def zeroU : UserD := ⟨[], [], []⟩
theorem infoU : (Tryz.prog.info? 26).map (·.size) = some 3 := by kernel_rfl
def RB (w : World) (b : Nat) (r : ReqD) (v : Value) : Prop := w.heap[b]? = some (.cells (reqV r v).toArray 24 (0, 0))
def UB (w : World) (b : Nat) (u : UserD) : Prop := w.heap[b]? = some (.cells (userC u).toArray 26 (0, 0))
theorem RB.q {w w' : World} {b : Nat} {r : ReqD} {v : Value} (h : RB w b r v) (hq : Q w w') : RB w' b r v := hq.block h
theorem UB.q {w w' : World} {b : Nat} {u : UserD} (h : UB w b u) (hq : Q w w') : UB w' b u := hq.block h
theorem RB.lt {w : World} {b : Nat} {r : ReqD} {v : Value} (h : RB w b r v) : b < w.heap.size := lt_of_heap h
theorem RB.c {w : World} {b : Nat} {r : ReqD} {v : Value} (h : RB w b r v) :
    w.cell? ⟨b, 0, none⟩ = some (.string ⟨r.m.toArray⟩) ∧ w.cell? ⟨b, 1, none⟩ = some (.string ⟨r.tg.toArray⟩) ∧ w.cell? ⟨b, 2, none⟩ = some (.int .i64 r.minor) ∧ w.cell? ⟨b, 3, none⟩ = some v ∧ w.cell? ⟨b, 4, none⟩ = some (.string ⟨r.body.toArray⟩) ∧ w.cell? ⟨b, 5, none⟩ = some (.bool r.close) := ReqCells h
theorem UB.c {w : World} {b : Nat} {u : UserD} (h : UB w b u) :
    w.cell? ⟨b, 0, none⟩ = some (.string ⟨u.name.toArray⟩) ∧ w.cell? ⟨b, 1, none⟩ = some (.string ⟨u.id.toArray⟩) ∧ w.cell? ⟨b, 2, none⟩ = some (.string ⟨u.sec.toArray⟩) := by
  refine ⟨?_, ?_, ?_⟩ <;> (rw [cell_of_row _ _ _ _ _ _ h]; rfl)
theorem RB.f {w : World} {b : Nat} {r : ReqD} {v : Value} (h : RB w b r v) (i : Nat) : w.frozen? ⟨b, i, none⟩ = false := frozen_of_row w b i _ _ h
theorem UB.f {w : World} {b : Nat} {u : UserD} (h : UB w b u) (i : Nat) : w.frozen? ⟨b, i, none⟩ = false := frozen_of_row w b i _ _ h
theorem RB.set {w : World} {b : Nat} {r : ReqD} {v : Value} (h : RB w b r v) (x : Value) : RB (w.setCell ⟨b, 3, none⟩ x) b r x := by
  unfold RB; rw [heap_setCell_any w b 3 _ _ _ _ h]; rfl
theorem RB.otherC {w : World} {b c i : Nat} {r : ReqD} {v : Value} (h : RB w b r v) (hn : b ≠ c) (x : Value) : RB (w.setCell ⟨c, i, none⟩ x) b r v := by
  unfold RB; rw [heap_setCell_other w ⟨c, i, none⟩ b x hn]; exact h
theorem UB.otherC {w : World} {b c i : Nat} {u : UserD} (h : UB w b u) (hn : b ≠ c) (x : Value) : UB (w.setCell ⟨c, i, none⟩ x) b u := by
  unfold UB; rw [heap_setCell_other w ⟨c, i, none⟩ b x hn]; exact h
theorem RB.row {w : World} {b : Nat} {r : ReqD} {v : Value} (h : RB w b r v) (r' : ReqD) (v' : Value) : RB (w.setRow b (reqV r' v').toArray) b r' v' := setRow_heap w b _ _ _ _ h
theorem UB.row {w : World} {b : Nat} {u : UserD} (h : UB w b u) (u' : UserD) : UB (w.setRow b (userC u').toArray) b u' := setRow_heap w b _ _ _ _ h
theorem RB.new (w : World) (r : ReqD) (v : Value) : RB (w.alloc (.cells (reqV r v).toArray 24)) w.heap.size r v := heap_alloc_new w _
theorem UB.new (w : World) (u : UserD) : UB (w.alloc (.cells (userC u).toArray 26)) w.heap.size u := heap_alloc_new w _
theorem sign_boxes (w : World) (r : ReqD) (v : Value) (u : UserD) : ∃ N w1 w2 w3, w.heap.size = N ∧ w.alloc (.cells (reqV r v).toArray 24) = w1 ∧ w1.heap.size = N + 1 ∧ w1.alloc (.cells (userC u).toArray 26) = w2 ∧ w2.heap.size = N + 2 ∧ w2.alloc (.cells (reqV zeroR (.slice none 0 0)).toArray 24) = w3 ∧
    RB w3 N r v ∧ UB w3 (N + 1) u ∧ RB w3 (N + 2) zeroR (.slice none 0 0) ∧ Q w w1 ∧ Q w w2 ∧ Q w w3 := by
  have q1 : Q w (w.alloc (.cells (reqV r v).toArray 24)) := (Q.refl w).alloc _
  have hs1 : (w.alloc (.cells (reqV r v).toArray 24)).heap.size = w.heap.size + 1 := by show (w.heap.push _).size = _; simp
  have b1 := RB.new w r v
  obtain ⟨w1, e1⟩ : ∃ W, w.alloc (.cells (reqV r v).toArray 24) = W := ⟨_, rfl⟩
  rw [e1] at q1 hs1 b1
  have q2 : Q w1 (w1.alloc (.cells (userC u).toArray 26)) := (Q.refl w1).alloc _
  have hs2 : (w1.alloc (.cells (userC u).toArray 26)).heap.size = w1.heap.size + 1 := by show (w1.heap.push _).size = _; simp
  have b2 := UB.new w1 u
  obtain ⟨w2, e2⟩ : ∃ W, w1.alloc (.cells (userC u).toArray 26) = W := ⟨_, rfl⟩
  rw [e2] at q2 hs2 b2
  have q3 : Q w2 (w2.alloc (.cells (reqV zeroR (.slice none 0 0)).toArray 24)) := (Q.refl w2).alloc _
  have b3 := RB.new w2 zeroR (.slice none 0 0)
  refine ⟨w.heap.size, w1, w2, _, rfl, e1, hs1, e2, by omega, rfl, b1.q (q2.trans q3), ?_, ?_, q1, q1.trans q2, q1.trans (q2.trans q3)⟩
  · rw [← hs1]; exact b2.q q3
  · rw [show w.heap.size + 2 = w2.heap.size by omega]; exact b3
theorem infoReqS (r : ReqD) (v : Value) : (Tryz.prog.info? 24).map (·.size) = some (reqV r v).toArray.size := infoReq
theorem infoUsrS (u : UserD) : (Tryz.prog.info? 26).map (·.size) = some (userC u).toArray.size := infoU
theorem OwnU.setC {w0 w : World} {v : Value} {l : List PairD} (h : OwnU w0 w v l) (b i : Nat) (x : Value) (hb : b < w0.heap.size) : OwnU w0 (w.setCell ⟨b, i, none⟩ x) v l :=
  h.g (row := some b) (setCells_gb b [x] i w) (fun k hk => by have := (h.block hk).1; intro e; injection e with e; omega)
theorem OwnU.setR {w0 w : World} {v : Value} {l : List PairD} (h : OwnU w0 w v l) (b : Nat) (cs : Array Value) (hb : b < w0.heap.size) : OwnU w0 (w.setRow b cs) v l := by
  refine ⟨h.1, ?_⟩
  rcases h.2 with h2 | ⟨g, cap, cur, hv, h1, h2, h3⟩
  · exact .inl h2
  · exact .inr ⟨g, cap, cur, hv, h1, by rw [setRow_other w b g cs (by omega)]; exact h2, h3⟩
end Go.Proofs.YtmmoenbmgcplkaaGreatDoor
