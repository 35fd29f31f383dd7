/- Texts of this proof, laid into one: MoU, MpV, SgR, MoN, MoO, SgS. -/
import Derived.Test.YtmmoenbmgcplkaaGreatDoorMn15
/- The reference reads a text. -/
set_option linter.unusedVariables false
namespace Go.Proofs.YtmmoenbmgcplkaaGreatDoor
open Go Go.RowKit
/-- A number or -1. -/
def nr (l : List UInt8) (a k : Int) : Int := (numK l a.toNat k.toNat).getD (-1)
theorem nr_bd (l : List UInt8) (a k : Int) (hk : k = 2 ∨ k = 4) : -1 ≤ nr l a k ∧ nr l a k ≤ 9999 := by
  unfold nr
  cases h : numK l a.toNat k.toNat with
  | none => simp
  | some n =>
    have hb := numK_bd _ _ _ _ h
    simp only [Option.getD_some]
    have : (10 : Int) ^ k.toNat ≤ 10000 := by rcases hk with rfl | rfl <;> decide
    omega
theorem nr_nv (l : List UInt8) (a k : Int) (h : (numK l a.toNat k.toNat).isSome = true) : nr l a k = nv l a k := by
  unfold nr nv
  cases e : numK l a.toNat k.toNat with
  | none => rw [e] at h; cases h
  | some n => rfl
def okB (h i s : Int) : Bool := decide (0 ≤ h ∧ 0 ≤ i ∧ 0 ≤ s ∧ h ≤ 23 ∧ i ≤ 59 ∧ s ≤ 59)
def joinI (Y m d h i s : Int) : Int := if vldB Y m d && okB h i s then (dayZ Y m d - 719468) * 86400 + 3600 * h + 60 * i + s else -1
set_option maxHeartbeats 4000000 in
theorem rjoin_any (Y m d h i s : Int) (w : World) : Calls Tryz.prog 95 #[.int .i64 Y, .int .i64 m, .int .i64 d, .int .i64 h, .int .i64 i, .int .i64 s] w fun e w' => e = .returned (.int .i64 (joinI Y m d h i s)) ∧ w = w' := by
  cases hv : vldB Y m d
  · have hj : joinI Y m d h i s = -1 := by unfold joinI; rw [hv]; rfl
    have HJ := Lib.hid hj
    have HV := Lib.hid hv
    clear hj hv
    go_enter Tryz.func95, Tryz.ntmps95
    go_wp2_with fail
    with_reducible refine (FromR_no _ _ _ _ HV.out).mono ?_
    rintro e w' ⟨rfl, rfl⟩
    go_wp2_with fail
    go_ret
    exact ⟨by rw [HJ.out]; rfl, rfl⟩
  · have hf : fromI Y m d = (dayZ Y m d - 719468) * 86400 := by unfold fromI; rw [if_pos hv]
    have hb := fromI_bd Y m d
    rw [hf] at hb
    have HV := Lib.hid hv
    clear hf
    generalize hF : (dayZ Y m d - 719468) * 86400 = F0 at *
    have HF := Lib.hid hF
    have t0 : decide (F0 < 0) = false := by simp; omega
    cases ho : okB h i s
    · have hj : joinI Y m d h i s = -1 := by unfold joinI; rw [hv, ho]; rfl
      have HJ := Lib.hid hj
      have hn := of_decide_eq_false ho
      clear hj hF hv ho
      by_cases h1 : h < 0
      · have t1 : decide (h < 0) = true := by simpa using h1
        clear hn
        go_enter Tryz.func95, Tryz.ntmps95
        go_wp2_with fail
        with_reducible refine (FromR_ok _ _ _ _ HV.out).mono ?_
        rintro e w' ⟨rfl, rfl⟩
        rw [HF.out]
        go_wp2_with fail
        go_ret
        exact ⟨by rw [HJ.out]; rfl, rfl⟩
      have t1 : decide (h < 0) = false := by simpa using h1
      by_cases h2 : i < 0
      · have t2 : decide (i < 0) = true := by simpa using h2
        clear hn
        go_enter Tryz.func95, Tryz.ntmps95
        go_wp2_with fail
        with_reducible refine (FromR_ok _ _ _ _ HV.out).mono ?_
        rintro e w' ⟨rfl, rfl⟩
        rw [HF.out]
        go_wp2_with fail
        go_ret
        exact ⟨by rw [HJ.out]; rfl, rfl⟩
      have t2 : decide (i < 0) = false := by simpa using h2
      by_cases h3 : s < 0
      · have t3 : decide (s < 0) = true := by simpa using h3
        clear hn
        go_enter Tryz.func95, Tryz.ntmps95
        go_wp2_with fail
        with_reducible refine (FromR_ok _ _ _ _ HV.out).mono ?_
        rintro e w' ⟨rfl, rfl⟩
        rw [HF.out]
        go_wp2_with fail
        go_ret
        exact ⟨by rw [HJ.out]; rfl, rfl⟩
      have t3 : decide (s < 0) = false := by simpa using h3
      by_cases h4 : 23 < h
      · have t4 : decide (23 < h) = true := by simpa using h4
        clear hn
        go_enter Tryz.func95, Tryz.ntmps95
        go_wp2_with fail
        with_reducible refine (FromR_ok _ _ _ _ HV.out).mono ?_
        rintro e w' ⟨rfl, rfl⟩
        rw [HF.out]
        go_wp2_with fail
        go_ret
        exact ⟨by rw [HJ.out]; rfl, rfl⟩
      have t4 : decide (23 < h) = false := by simpa using h4
      by_cases h5 : 59 < i
      · have t5 : decide (59 < i) = true := by simpa using h5
        clear hn
        go_enter Tryz.func95, Tryz.ntmps95
        go_wp2_with fail
        with_reducible refine (FromR_ok _ _ _ _ HV.out).mono ?_
        rintro e w' ⟨rfl, rfl⟩
        rw [HF.out]
        go_wp2_with fail
        go_ret
        exact ⟨by rw [HJ.out]; rfl, rfl⟩
      have t5 : decide (59 < i) = false := by simpa using h5
      have h6 : 59 < s := by omega
      have t6 : decide (59 < s) = true := by simpa using h6
      clear hn
      go_enter Tryz.func95, Tryz.ntmps95
      go_wp2_with fail
      with_reducible refine (FromR_ok _ _ _ _ HV.out).mono ?_
      rintro e w' ⟨rfl, rfl⟩
      rw [HF.out]
      go_wp2_with fail
      go_ret
      exact ⟨by rw [HJ.out]; rfl, rfl⟩
    · obtain ⟨o1, o2, o3, o4, o5, o6⟩ := of_decide_eq_true ho
      have hj : joinI Y m d h i s = F0 + 3600 * h + 60 * i + s := by unfold joinI; rw [hv, ho, hF]; rfl
      have HJ := Lib.hid hj
      have t1 : decide (h < 0) = false := by simp; omega
      have t2 : decide (i < 0) = false := by simp; omega
      have t3 : decide (s < 0) = false := by simp; omega
      have t4 : decide (23 < h) = false := by simp; omega
      have t5 : decide (59 < i) = false := by simp; omega
      have t6 : decide (59 < s) = false := by simp; omega
      clear hj hF hv ho
      go_enter Tryz.func95, Tryz.ntmps95
      go_wp2_with fail
      with_reducible refine (FromR_ok _ _ _ _ HV.out).mono ?_
      rintro e w' ⟨rfl, rfl⟩
      rw [HF.out]
      go_wp2_with fail
      go_ret
      exact ⟨by rw [HJ.out]; rfl, rfl⟩
/-- What the reference answers: the moment that is told so, or -1. -/
def RrSays (l : List UInt8) (TL : Int → List UInt8) (r : Int) : Prop :=
  ((0 ≤ r ∧ r ≤ 253402300799) ∧ TL r = l) ∨ (r = -1 ∧ ∀ t, 0 ≤ t → t ≤ 253402300799 → TL t ≠ l)
theorem joinI_bd (Y m d h i s : Int) : joinI Y m d h i s = -1 ∨ (0 ≤ joinI Y m d h i s ∧ joinI Y m d h i s ≤ 253402300799) := by
  unfold joinI
  by_cases hc : (vldB Y m d && okB h i s) = true
  · right
    rw [if_pos hc]
    simp only [Bool.and_eq_true] at hc
    obtain ⟨o1, o2, o3, o4, o5, o6⟩ := of_decide_eq_true hc.2
    have hf : fromI Y m d = (dayZ Y m d - 719468) * 86400 := by unfold fromI; rw [if_pos hc.1]
    have hb : 0 ≤ fromI Y m d ∧ fromI Y m d ≤ 253402300800 - 86400 := by
      unfold fromI
      rw [if_pos hc.1]
      obtain ⟨v1, v2, v3, v4, v5, v6⟩ := of_decide_eq_true hc.1
      have hz := dayZ_J Y d (m - 1).toNat (by omega)
      rw [show (((m - 1).toNat : Nat) : Int) + 1 = m from by omega] at hz
      have hcv : Civ (dayZ Y m d) Y (m - 1).toNat d := ⟨by omega, v5, by rw [show (((m - 1).toNat : Nat) : Int) + 1 = m from by omega]; exact v6, hz⟩
      have h1 := hcv.lo
      have h2 := hcv.hi
      have h3 : 719468 ≤ J Y := by
        rcases Int.lt_or_eq_of_le v1 with e | e
        · have := J_mono _ _ e; rw [J_1970] at this; omega
        · rw [← e, J_1970]; omega
      have h4 : J (Y + 1) ≤ 3652365 := by
        rcases Int.lt_or_eq_of_le (show Y + 1 ≤ 10000 from by omega) with e | e
        · have := J_mono _ _ e; rw [J_10000] at this; omega
        · rw [e, J_10000]; omega
      omega
    omega
  · left; rw [if_neg hc]
/-- The parts of a moment, joined, are it. -/
theorem join_civ (t : Int) (h0 : 0 ≤ t) (h1 : t ≤ 253402300799) : joinI (civY (zI t)) (civM (zI t)) (civD (zI t)) (hoI t) (miI t) (seI t) = t := by
  have hv := vld_civ t h0 h1
  obtain ⟨_, _, _, ⟨o0, o1⟩, ⟨i0, i1⟩, ⟨s0, s1⟩⟩ := parts_bd t h0 h1
  have ho : okB (hoI t) (miI t) (seI t) = true := decide_eq_true ⟨o0, i0, s0, by omega, by omega, by omega⟩
  have hf := (fromI_civ t h0 h1).1
  unfold fromI at hf
  rw [if_pos hv] at hf
  unfold joinI
  rw [hv, ho, hf]
  have := sum_back t h0
  simp only [Bool.and_self, if_true]
  omega
end Go.Proofs.YtmmoenbmgcplkaaGreatDoor
/- The reference's ReadStamp alone (XMoV's first part). -/
set_option linter.unusedVariables false
namespace Go.Proofs.YtmmoenbmgcplkaaGreatDoor
open Go Go.RowKit
theorem numR_nr (l : List UInt8) (a k : Int) (w : World) (ha0 : 0 ≤ a) (ha : a ≤ 1000) (hk0 : 0 ≤ k) (hk : k ≤ 4) (hl : l.length ≤ 140737488355328) : Calls Tryz.prog 96 #[.string ⟨l.toArray⟩, .int .i64 a, .int .i64 k] w fun e w' => e = .returned (.int .i64 (nr l a k)) ∧ w = w' := numR_any l a k w ha0 ha hk0 hk hl
def ReadRPost (l : List UInt8) (TL : Int → List UInt8) (w : World) (e : Ending) (w' : World) : Prop := ∃ r, e = .returned (.int .i64 r) ∧ RrSays l TL r ∧ Q w w'
theorem joinedStamp (l : List UInt8) (t : Int) (h0 : 0 ≤ t) (h1 : t ≤ 253402300799) (ht : stampL t = l) : joinI (nr l 0 4) (nr l 4 2) (nr l 6 2) (nr l 9 2) (nr l 11 2) (nr l 13 2) = t := by
  obtain ⟨hs, e0, e1, e2, e3, e4, e5⟩ := parseStamp t h0 h1
  rw [ht] at hs e0 e1 e2 e3 e4 e5
  rw [nr_nv l 0 4 (hs 0 4 (by decide)), nr_nv l 4 2 (hs 4 2 (by decide)), nr_nv l 6 2 (hs 6 2 (by decide)), nr_nv l 9 2 (hs 9 2 (by decide)), nr_nv l 11 2 (hs 11 2 (by decide)), nr_nv l 13 2 (hs 13 2 (by decide)), e0, e1, e2, e3, e4, e5]
  exact join_civ t h0 h1
end Go.Proofs.YtmmoenbmgcplkaaGreatDoor
/- sign.check as a plain function, and what it says of a request that was signed. -/
set_option linter.unusedVariables false
set_option linter.unusedSimpArgs false
namespace Go.Proofs.YtmmoenbmgcplkaaGreatDoor
open Go Go.RowKit
def stampQ (l : List UInt8) : Option Int :=
  let t := joinI (nr l 0 4) (nr l 4 2) (nr l 6 2) (nr l 9 2) (nr l 11 2) (nr l 13 2)
  if TimeOk t ∧ stampL t = l then some t else none
theorem stampQ_some {l : List UInt8} {t : Int} (h : TimeOk t) (hl : stampL t = l) : stampQ l = some t := by
  unfold stampQ
  have := joinedStamp l t h.1 h.2 hl
  simp only [this]
  rw [if_pos ⟨h, hl⟩]
theorem stampQ_none {l : List UInt8} (h : ∀ t, 0 ≤ t → t ≤ 253402300799 → stampL t ≠ l) : stampQ l = none := by
  unfold stampQ
  simp only
  rw [if_neg (fun hh => h _ hh.1.1 hh.1.2 hh.2)]
theorem stampQ_of {l : List UInt8} {t : Int} (h : stampQ l = some t) : TimeOk t ∧ stampL t = l := by
  unfold stampQ at h
  simp only at h
  split at h
  · next hh => injection h with h; subst h; exact hh
  · cases h
def unsignedL : List UInt8 := [85, 78, 83, 73, 71, 78, 69, 68, 45, 80, 65, 89, 76, 79, 65, 68]
/-- Behind the claim. -/
def whoQ (r : ReqD) (us : List UserD) (now : Int) (rg : List UInt8) (x : ClaimD) (c st : List UInt8) (when' : Int) : UserD × Int :=
  match us.find? (fun u => u.id == x.id) with
  | none => (zeroU, 73)
  | some u =>
    if 900 < max (when' - now) (now - when') then (zeroU, 75)
    else if sigL u.sec st rg c ≠ x.sig then (zeroU, 74)
    else if (fieldL r.fs bodySumL).getD [] ≠ unsignedL ∧ (fieldL r.fs bodySumL).getD [] ≠ hexL (sha r.body) then (zeroU, 76)
    else (u, 0)
def fitQ (rg : List UInt8) (x : ClaimD) (st : List UInt8) : Prop := x.region = rg ∧ hostL ∈ x.names ∧ datedL ∈ x.names ∧ st.take 8 = x.day
instance (rg : List UInt8) (x : ClaimD) (st : List UInt8) : Decidable (fitQ rg x st) := by unfold fitQ; infer_instance
def claimQ (r : ReqD) (us : List UserD) (now : Int) (rg : List UInt8) (x : ClaimD) : UserD × Int :=
  match canonQ r x.names, fieldL r.fs datedL with
  | some c, some st =>
    match stampQ st with
    | some t => if fitQ rg x st then whoQ r us now rg x c st t else (zeroU, 72)
    | none => (zeroU, 72)
  | _, _ => (zeroU, 72)
def checkQ (r : ReqD) (us : List UserD) (now : Int) (rg : List UInt8) : UserD × Int :=
  if TimeOk now then
    if manyL r.fs authL = 0 then (zeroU, 71)
    else match fieldL r.fs authL with
      | none => (zeroU, 72)
      | some auth => match readQ auth with
        | none => (zeroU, 72)
        | some x => claimQ r us now rg x
  else (zeroU, 1)
-- what was signed
theorem head_hit {h : List UInt8} (r : List UInt8) (hh : ∀ x, h.head? = some x → x ≠ 32) (h0 : h ≠ []) : headS h (h ++ r) = r ∧ headB h (h ++ r) = true := by
  obtain ⟨x, t, rfl⟩ := List.exists_cons_of_ne_nil h0
  have hx : (x == 32) = false := by simpa using hh x rfl
  have ht : Lib.trimLeftB ((x :: t) ++ r) 32 = (x :: t) ++ r := by
    unfold Lib.trimLeftB; rw [List.cons_append, List.dropWhile_cons_of_neg (by rw [hx]; simp)]
  have hp : Lib.hasPrefix ((x :: t) ++ r) (x :: t) = true := by
    unfold Lib.hasPrefix; rw [List.isPrefixOf_iff_prefix]; exact List.prefix_append _ _
  unfold headS headB
  rw [ht]
  refine ⟨?_, hp⟩
  unfold Lib.trimPrefix
  rw [if_pos hp, List.drop_left]
theorem head_hit1 {h : List UInt8} (r : List UInt8) (hh : ∀ x, h.head? = some x → x ≠ 32) (h0 : h ≠ []) : headS h (32 :: (h ++ r)) = r ∧ headB h (32 :: (h ++ r)) = true := by
  have h1 := head_hit r hh h0
  have e : Lib.trimLeftB (32 :: (h ++ r)) 32 = Lib.trimLeftB (h ++ r) 32 := by
    unfold Lib.trimLeftB; rw [List.dropWhile_cons_of_pos (by rfl)]
  unfold headS headB at h1 ⊢
  rw [e]; exact h1
theorem okW_ne {s : List UInt8} (h : wordL s = true) : ∀ b ∈ s, b ≠ 47 ∧ b ≠ 44 ∧ b ≠ 61 ∧ b ≠ 59 ∨ b = 59 := by
  intro b hb
  unfold wordL at h
  rw [Bool.and_eq_true] at h
  have h1 := List.all_eq_true.1 h.1 b hb
  have key : ∀ n : Fin 256, okW n.val.toUInt8 = true → (n.val.toUInt8 ≠ 47 ∧ n.val.toUInt8 ≠ 44 ∧ n.val.toUInt8 ≠ 61) := by decide +kernel
  have := key ⟨b.toNat, b.toNat_lt⟩
  simp only [UInt8.ofNat_toNat, Nat.toUInt8_eq] at this
  have := this (by simpa using h1)
  by_cases h59 : b = 59
  · exact .inr h59
  · exact .inl ⟨this.1, this.2.1, this.2.2, h59⟩
theorem word_no {s : List UInt8} (h : wordL s = true) : (∀ b ∈ s, b ≠ 47) ∧ (∀ b ∈ s, b ≠ 44) := by
  have h1 := okW_ne h
  constructor
  · intro b hb; rcases h1 b hb with h | h
    · exact h.1
    · rw [h]; decide
  · intro b hb; rcases h1 b hb with h | h
    · exact h.2.1
    · rw [h]; decide
theorem ten_no {s : List UInt8} (h : s.all chrT = true) : (∀ b ∈ s, b ≠ 47) ∧ (∀ b ∈ s, b ≠ 44) := by
  constructor <;>
  · intro b hb e
    have := List.all_eq_true.1 h b hb
    rw [e] at this
    exact absurd this (by decide)
theorem hex_chrX (l : List UInt8) : (hexL l).all chrX = true := by
  have key : ∀ n : Fin 256, (hexC n.val.toUInt8).all chrX = true := by decide +kernel
  unfold hexL
  rw [List.all_flatMap, List.all_eq_true]
  intro b _
  have := key ⟨b.toNat, b.toNat_lt⟩
  simpa using this
theorem stamp_day (t : Int) : ((stampL t).take 8).all chrT = true ∧ (stampL t).length = 16 := by
  have key : ∀ n : Int, chrT (dc n) = true := by
    intro n
    have := dc_range n
    unfold chrT
    simp only [Bool.and_eq_true, decide_eq_true_eq]
    exact this
  refine ⟨?_, rfl⟩
  have e : (stampL t).take 8 = d4 (civY (zI t)) ++ d2 (civM (zI t)) ++ d2 (civD (zI t)) := rfl
  rw [e]
  unfold d4 d2
  simp [key]
theorem read_value (u : UserD) (st rg c : List UInt8) (hu : wordL u.id = true) (hr : wordL rg = true) (hs : (st.take 8).all chrT = true) (hl : 8 ≤ st.length) : readQ (valueL u st rg c) = some ⟨u.id, st.take 8, rg, sigL u.sec st rg c, names3⟩ := by
  have hsl : (sigL u.sec st rg c).length = 64 := by unfold sigL; rw [hexL_length, mac_length]
  have hsx : (sigL u.sec st rg c).all chrX = true := by unfold sigL; exact hex_chrX _
  generalize hSG : sigL u.sec st rg c = SG at hsl hsx
  have e0 : valueL u st rg c = methodL ++ (32 :: (credW ++ (u.id ++ 47 :: (st.take 8 ++ 47 :: (rg ++ 47 :: s3L)) ++ 44 :: (32 :: (shdW ++ (Lib.join names3 [59] ++ 44 :: (32 :: (sgnW ++ SG)))))))) := by
    unfold valueL scopeL
    rw [hSG]
    simp [credL, methodL, credW, shdL, sgnL, shdW, sgnW, awsL, s3L]
  have hpre : Lib.hasPrefix (valueL u st rg c) methodS = true := by
    rw [e0]
    unfold Lib.hasPrefix
    rw [List.isPrefixOf_iff_prefix]
    exact ⟨_, by rw [show methodS = methodL ++ [32] from rfl, List.append_assoc]; rfl⟩
  obtain ⟨i1, i2⟩ := word_no hu
  obtain ⟨r1, r2⟩ := word_no hr
  obtain ⟨d1, d2⟩ := ten_no hs
  have hsp : splitC 59 (Lib.join names3 [59]) = names3 := by decide +kernel
  have hj : ∀ b ∈ Lib.join names3 [59], b ≠ 44 := by decide +kernel
  generalize Lib.join names3 [59] = J at e0 hsp hj
  have h1 := head_hit (h := methodL) (32 :: (credW ++ (u.id ++ 47 :: (st.take 8 ++ 47 :: (rg ++ 47 :: s3L)) ++ 44 :: (32 :: (shdW ++ (J ++ 44 :: (32 :: (sgnW ++ SG)))))))) (by decide) (by decide)
  have h2 := head_hit1 (h := credW) (u.id ++ 47 :: (st.take 8 ++ 47 :: (rg ++ 47 :: s3L)) ++ 44 :: (32 :: (shdW ++ (J ++ 44 :: (32 :: (sgnW ++ SG)))))) (by decide) (by decide)
  have h3 := cutB_app (c := 44) (a := u.id ++ 47 :: (st.take 8 ++ 47 :: (rg ++ 47 :: s3L))) (32 :: (shdW ++ (J ++ 44 :: (32 :: (sgnW ++ SG))))) (by
    intro b hb
    simp only [List.mem_append, List.mem_cons] at hb
    rcases hb with hb | rfl | hb | rfl | hb | rfl | hb
    · exact i2 b hb
    · decide
    · exact d2 b hb
    · decide
    · exact r2 b hb
    · decide
    · revert b; decide)
  have h4 := cutB_app (c := 47) (a := u.id) (st.take 8 ++ 47 :: (rg ++ 47 :: s3L)) i1
  have h5 := cutB_app (c := 47) (a := st.take 8) (rg ++ 47 :: s3L) d1
  have h6 := cutB_app (c := 47) (a := rg) s3L r1
  have h7 := head_hit1 (h := shdW) (J ++ 44 :: (32 :: (sgnW ++ SG))) (by decide) (by decide)
  have h8 := cutB_app (c := 44) (a := J) (32 :: (sgnW ++ SG)) hj
  have h9 := head_hit1 (h := sgnW) SG (by decide) (by decide)
  have hW : rdW (valueL u st rg c) = ⟨true, true, s3L, ⟨u.id, st.take 8, rg, SG, names3⟩⟩ := by
    unfold rdW uptoP uptoS uptoB
    rw [hpre, e0]
    simp only [h1.1, h1.2, h2.1, h2.2, h3, h4, h5, h6, h7.1, h7.2, h8, h9.1, h9.2, hsp, Bool.and_self]
  unfold readQ
  rw [hW, if_pos ⟨rfl, rfl, rfl, hu, by simp; omega, hs, hsl, hsx⟩]
theorem isN_ne {t : List UInt8} {p : PairD} (h : smL p.1 ≠ smL t) : isN t p = false := by unfold isN; simpa using h
theorem field_snoc_no {ps : List PairD} {p : PairD} {t : List UInt8} (h : isN t p = false) : fieldL (ps ++ [p]) t = fieldL ps t := by
  unfold fieldL
  rw [List.findIdx?_append]
  rcases hf : ps.findIdx? (isN t) with _ | k
  · simp [h, List.findIdx?_cons]
  · have hk := (List.findIdx?_eq_some_iff_findIdx_eq.1 hf).1
    show (if (List.drop (k + 1) (ps ++ [p])).any (isN t) = true then none else some (gU (ps ++ [p]) k).2) = if (List.drop (k + 1) ps).any (isN t) = true then none else some (gU ps k).2
    rw [List.drop_append_of_le_length (by omega), List.any_append]
    have : gU (ps ++ [p]) k = gU ps k := by unfold gU; rw [List.getD_eq_getElem?_getD, List.getD_eq_getElem?_getD, List.getElem?_append_left hk]
    rw [this]
    simp only [List.any_cons, List.any_nil, h, Bool.or_false]
theorem many_none {ps : List PairD} {t : List UInt8} (h : manyL ps t = 0) : ∀ p ∈ ps, isN t p = false := by
  intro p hp
  unfold manyL at h
  rw [List.countP_eq_zero] at h
  have := h p hp
  unfold isN
  simpa using this
theorem field_new {ps : List PairD} {p : PairD} {t : List UInt8} (h : manyL ps t = 0) (hp : isN t p = true) : fieldL (ps ++ [p]) t = some p.2 := by
  have h0 := many_none h
  have hf : ps.findIdx? (isN t) = none := List.findIdx?_eq_none_iff.2 h0
  unfold fieldL
  rw [List.findIdx?_append, hf]
  simp only [Option.none_or, List.findIdx?_cons, hp, List.findIdx?_nil, if_true, Option.map_some, Nat.zero_add]
  rw [List.drop_eq_nil_of_le (by simp)]
  simp [gU]
theorem many_app (ps qs : List PairD) (t : List UInt8) : manyL (ps ++ qs) t = manyL ps t + manyL qs t := by unfold manyL; rw [List.countP_append]
theorem lines_same {fs gs : List PairD} : ∀ ns : List (List UInt8), (∀ n ∈ ns, fieldL fs n = fieldL gs n) → linesL fs ns = linesL gs ns := by
  intro ns
  induction ns with
  | nil => intro _; rfl
  | cons a r ih =>
    intro h
    rw [linesL, linesL, ih (fun n hn => h n (by simp [hn]))]
    unfold lineL
    rw [h a (by simp)]
theorem canon_same {r q : ReqD} {ns : List (List UInt8)} (hm : r.m = q.m) (ht : r.tg = q.tg) (hf : ∀ n ∈ ns, fieldL r.fs n = fieldL q.fs n) (hb : fieldL r.fs bodySumL = fieldL q.fs bodySumL) : canonQ r ns = canonQ q ns := by
  unfold canonQ headL
  rw [hm, ht, lines_same ns hf, hb]
/-- What is known of a request that was signed. -/
structure SignedQ (r : ReqD) (u : UserD) (now : Int) (rg : List UInt8) (q : ReqD) (c : List UInt8) : Prop where
  ok : okSign r u now rg
  e : q = { r with fs := r.fs ++ [(datedL, stampL now), (bodySumL, hexL (sha r.body))] ++ [(authL, valueL u (stampL now) rg c)] }
  many : manyL q.fs authL = 1
  auth : fieldL q.fs authL = some (valueL u (stampL now) rg c)
  dated : fieldL q.fs datedL = some (stampL now)
  sum : fieldL q.fs bodySumL = some (hexL (sha r.body))
  can : canonQ q names3 = some c
theorem signed_of {r : ReqD} {u : UserD} {now : Int} {rg : List UInt8} {q : ReqD} (h : signQ r u now rg = some q) : ∃ c, SignedQ r u now rg q c := by
  unfold signQ at h
  split at h
  case isFalse => cases h
  case isTrue hok =>
    rcases hc : canonQ (dressR r now) names3 with _ | c
    · rw [hc] at h; cases h
    · rw [hc] at h
      simp only [Option.some.injEq] at h
      obtain ⟨h1, h2, h3, h4, h5⟩ := id hok
      have z1 : manyL r.fs datedL = 0 := by omega
      have z2 : manyL r.fs bodySumL = 0 := by omega
      have z3 : manyL r.fs authL = 0 := by omega
      have n12 : ∀ v, isN datedL (bodySumL, v) = false := fun v => isN_ne (by show smL bodySumL ≠ smL datedL; decide)
      have n21 : ∀ v, isN bodySumL (datedL, v) = false := fun v => isN_ne (by show smL datedL ≠ smL bodySumL; decide)
      have n13 : ∀ v, isN datedL (authL, v) = false := fun v => isN_ne (by show smL authL ≠ smL datedL; decide)
      have n23 : ∀ v, isN bodySumL (authL, v) = false := fun v => isN_ne (by show smL authL ≠ smL bodySumL; decide)
      have n03 : ∀ v, isN hostL (authL, v) = false := fun v => isN_ne (by show smL authL ≠ smL hostL; decide)
      have n31 : ∀ v, isN authL (datedL, v) = false := fun v => isN_ne (by show smL datedL ≠ smL authL; decide)
      have n32 : ∀ v, isN authL (bodySumL, v) = false := fun v => isN_ne (by show smL bodySumL ≠ smL authL; decide)
      have y : ∀ t v, isN t (t, v) = true := fun t v => by unfold isN; simp
      have e2 : ∀ a b : PairD, r.fs ++ [a, b] = (r.fs ++ [a]) ++ [b] := fun a b => by simp
      have m3 : ∀ a b, manyL ((r.fs ++ [(datedL, a)]) ++ [(bodySumL, b)]) authL = 0 := fun a b => by
        rw [many_app, many_app, z3]
        have k1 : manyL [(datedL, a)] authL = 0 := by unfold manyL; rw [List.countP_eq_zero]; intro p hp; simp only [List.mem_singleton] at hp; subst hp; have := n31 a; unfold isN at this; simpa using this
        have k2 : manyL [(bodySumL, b)] authL = 0 := by unfold manyL; rw [List.countP_eq_zero]; intro p hp; simp only [List.mem_singleton] at hp; subst hp; have := n32 b; unfold isN at this; simpa using this
        rw [k1, k2]
      have hd : fieldL ((r.fs ++ [(datedL, stampL now), (bodySumL, hexL (sha r.body))]) ++ [(authL, valueL u (stampL now) rg c)]) datedL = some (stampL now) := by
        rw [field_snoc_no (n13 _), e2, field_snoc_no (n12 _), field_new z1 (y _ _)]
      have zb : ∀ v, manyL (r.fs ++ [(datedL, v)]) bodySumL = 0 := fun v => by
        rw [many_app, z2]
        unfold manyL
        rw [Nat.zero_add, List.countP_eq_zero]
        intro p hp; simp only [List.mem_singleton] at hp; subst hp; have := n21 v; unfold isN at this; simpa using this
      have hb : fieldL ((r.fs ++ [(datedL, stampL now), (bodySumL, hexL (sha r.body))]) ++ [(authL, valueL u (stampL now) rg c)]) bodySumL = some (hexL (sha r.body)) := by
        rw [field_snoc_no (n23 _), e2, field_new (zb _) (y _ _)]
      refine ⟨c, ⟨hok, h.symm, ?_, ?_, ?_, ?_, ?_⟩⟩
      · rw [← h]
        show manyL ((r.fs ++ [(datedL, stampL now), (bodySumL, hexL (sha r.body))]) ++ [(authL, valueL u (stampL now) rg c)]) authL = 1
        rw [e2, many_app, m3]
        unfold manyL
        simp
      · rw [← h]
        show fieldL ((r.fs ++ [(datedL, stampL now), (bodySumL, hexL (sha r.body))]) ++ [(authL, valueL u (stampL now) rg c)]) authL = _
        rw [e2, field_new (m3 _ _) (y _ _)]
      · rw [← h]; exact hd
      · rw [← h]; exact hb
      · rw [← hc, ← h]
        refine canon_same rfl rfl ?_ ?_
        · intro n hn
          show fieldL ((r.fs ++ [(datedL, stampL now), (bodySumL, hexL (sha r.body))]) ++ [(authL, valueL u (stampL now) rg c)]) n = fieldL (r.fs ++ [(datedL, stampL now), (bodySumL, hexL (sha r.body))]) n
          unfold names3 at hn
          simp only [List.mem_cons, List.not_mem_nil, or_false] at hn
          rcases hn with rfl | rfl | rfl
          · exact field_snoc_no (n03 _)
          · exact field_snoc_no (n23 _)
          · exact field_snoc_no (n13 _)
        · exact field_snoc_no (n23 _)
/-- What a check says of a request that was signed, whose body may have been changed. -/
theorem check_signed {r : ReqD} {u : UserD} {now : Int} {rg : List UInt8} {q : ReqD} {c : List UInt8} (h : SignedQ r u now rg q c) (body : List UInt8) (us : List UserD) (at_ : Int) (rg' : List UInt8) :
    checkQ { q with body := body } us at_ rg' = if TimeOk at_ then if rg = rg' then whoQ { q with body := body } us at_ rg' ⟨u.id, (stampL now).take 8, rg, sigL u.sec (stampL now) rg c, names3⟩ c (stampL now) now else (zeroU, 72) else (zeroU, 1) := by
  obtain ⟨h1, h2, h3, h4, h5⟩ := id h.ok
  have hs := stamp_day now
  have hr := read_value u (stampL now) rg c h2 h3 hs.1 (by omega)
  have hcan : canonQ { q with body := body } names3 = some c := by rw [← h.can]; exact canon_same rfl rfl (fun _ _ => rfl) rfl
  unfold checkQ
  by_cases ht : TimeOk at_
  · rw [if_pos ht, if_pos ht]
    simp only [h.many, h.auth, hr]
    rw [if_neg (by decide)]
    unfold claimQ
    simp only [hcan, h.dated, stampQ_some h1 rfl]
    by_cases hrg : rg = rg'
    · rw [if_pos hrg, if_pos ⟨hrg, by show hostL ∈ names3; decide, by show datedL ∈ names3; decide, rfl⟩]
    · rw [if_neg hrg, if_neg (fun hf => hrg hf.1)]
  · rw [if_neg ht, if_neg ht]
end Go.Proofs.YtmmoenbmgcplkaaGreatDoor
/- Reading a long text. -/
set_option linter.unusedVariables false
namespace Go.Proofs.YtmmoenbmgcplkaaGreatDoor
open Go Go.RowKit
end Go.Proofs.YtmmoenbmgcplkaaGreatDoor
/- The chapter's examples; MomentDays. -/
set_option linter.unusedVariables false
namespace Go.Proofs.YtmmoenbmgcplkaaGreatDoor
open Go Go.RowKit
theorem ReadStamp_any (l : List UInt8) (w : World) (ht : Tab w) (hl : l.length ≤ 140737488355328) : Calls Tryz.prog 79 #[.string ⟨l.toArray⟩] w (ReadPost l stampL w) := by
  have hr : Calls Tryz.prog 130 #[.string ⟨l.toArray⟩, .agg #[.int .i64 0, .int .i64 4, .int .i64 6, .int .i64 9, .int .i64 11, .int .i64 13], .func (.func 24) #[] #[]] w (ReadPost l stampL w) := by
    by_cases h : ∃ t, (0 ≤ t ∧ t ≤ 253402300799) ∧ stampL t = l
    · obtain ⟨t, ⟨h0, h1⟩, ht0⟩ := h
      exact readStamp_yes l t w ht hl h0 h1 ht0
    · exact readStamp_no l w ht hl (fun t h0 h1 e => h ⟨t, ⟨h0, h1⟩, e⟩)
  have HR := Lib.hid hr
  clear hr ht
  go_enter Tryz.func79, Tryz.ntmps79
  go_wp2_with fail
  with_reducible refine HR.out.mono ?_
  rintro e w1 ⟨r, x, rfl, hs, hq⟩
  have HS := Lib.hid hs
  clear hs
  go_wp2_with fail
  go_ret2
  exact ⟨r, x, rfl, HS.out, hq⟩
theorem exm1 : stampL 1369353600 = [50, 48, 49, 51, 48, 53, 50, 52, 84, 48, 48, 48, 48, 48, 48, 90] := by decide +kernel
theorem ex2 : longL 1369353600 = [50, 48, 49, 51, 45, 48, 53, 45, 50, 52, 84, 48, 48, 58, 48, 48, 58, 48, 48, 46, 48, 48, 48, 90] := by decide +kernel
theorem ex3 : webL 1369353600 = [70, 114, 105, 44, 32, 50, 52, 32, 77, 97, 121, 32, 50, 48, 49, 51, 32, 48, 48, 58, 48, 48, 58, 48, 48, 32, 71, 77, 84] := by decide +kernel
theorem ex4 : civY (zI 951782400) = 2000 ∧ civM (zI 951782400) = 2 ∧ civD (zI 951782400) = 29 := by decide +kernel
theorem ex5 : vldB 2100 2 29 = false := by decide +kernel
theorem ex6 (t : Int) (h0 : 0 ≤ t) (h1 : t ≤ 253402300799) : stampL t ≠ [50, 48, 49, 51, 48, 50, 51, 48, 84, 48, 48, 48, 48, 48, 48, 90] := by
  intro e
  obtain ⟨_, e0, e1, e2, _⟩ := parseStamp t h0 h1
  rw [e] at e0 e1 e2
  have n0 : nv [50, 48, 49, 51, 48, 50, 51, 48, 84, 48, 48, 48, 48, 48, 48, 90] 0 4 = 2013 := by decide +kernel
  have n1 : nv [50, 48, 49, 51, 48, 50, 51, 48, 84, 48, 48, 48, 48, 48, 48, 90] 4 2 = 2 := by decide +kernel
  have n2 : nv [50, 48, 49, 51, 48, 50, 51, 48, 84, 48, 48, 48, 48, 48, 48, 90] 6 2 = 30 := by decide +kernel
  have hv := vld_civ t h0 h1
  rw [← e0, ← e1, ← e2, n0, n1, n2] at hv
  exact absurd hv (by decide +kernel)
end Go.Proofs.YtmmoenbmgcplkaaGreatDoor
/- Users in a slice, and slices.IndexFunc of them by an ID. -/
set_option linter.unusedVariables false
set_option linter.unusedSimpArgs false
namespace Go.Proofs.YtmmoenbmgcplkaaGreatDoor
open Go Go.RowKit
def lUi_ren : Go.Shelf.Ren := ⟨fun | 6 => 81 | n => n, fun | 0 => 0 | 3 => 3 | 4 => 4 | 22 => 33 | 23 => 26 | 25 => 119 | n => n, fun | n => n⟩
theorem lUi6 : Go.Proofs.SlLaysH0.n6 Tryz.prog lUi_ren := {
  mixed := by kernel_rfl
  f6 := ⟨Tryz.f81.name, by decide, Tryz.func81.trans (congrArg some (by kernel_rfl))⟩
  t0 := Tryz.underlying0
  a0 := Tryz.isAgg0
  z0 := Tryz.sizeOf0
  v0 := Tryz.zeroValue0
  t3 := Tryz.underlying3
  a3 := Tryz.isAgg3
  z3 := Tryz.sizeOf3
  v3 := Tryz.zeroValue3
  t4 := Tryz.underlying4
  a4 := Tryz.isAgg4
  z4 := Tryz.sizeOf4
  v4 := Tryz.zeroValue4
  t22 := Tryz.underlying33
  a22 := Tryz.isAgg33
  z22 := Tryz.sizeOf33
  v22 := Tryz.zeroValue33
  t25 := Tryz.underlying119
  a25 := Tryz.isAgg119
  z25 := Tryz.sizeOf119
  v25 := Tryz.zeroValue119 }
instance : Inhabited UserD := ⟨zeroU⟩
def isU (id : List UInt8) (u : UserD) : Bool := u.id == id
def UsersAt (w : World) (A : Option Addr) (n : Nat) (us : List UserD) : Prop :=
  n = us.length ∧ (0 < n → ∃ g off, A = some ⟨g, off, none⟩ ∧ g < w.heap.size ∧ ∀ j (h : j < us.length), ∀ i v, (userC us[j])[i]? = some v → w.cell? ⟨g, off + j * 3 + i, none⟩ = some v)
theorem UsersAt.q {w w' : World} {A : Option Addr} {n : Nat} {us : List UserD} (h : UsersAt w A n us) (hq : Q w w') : UsersAt w' A n us :=
  ⟨h.1, fun h0 => let ⟨g, off, e, hg, hc⟩ := h.2 h0; ⟨g, off, e, Nat.lt_of_lt_of_le hg hq.size, fun j hj i v hv => hq.cell (hc j hj i v hv)⟩⟩
def gUs (us : List UserD) (j : Nat) : UserD := us.getD j zeroU
theorem UsersAt.at {w : World} {A : Option Addr} {n : Nat} {us : List UserD} (h : UsersAt w A n us) {j : Nat} (hj : j < n) : ∃ g off, A = some ⟨g, off, none⟩ ∧
    w.cell? ⟨g, off + j * 3, none⟩ = some (.string ⟨(gUs us j).name.toArray⟩) ∧ w.cell? ⟨g, off + j * 3 + 1, none⟩ = some (.string ⟨(gUs us j).id.toArray⟩) ∧ w.cell? ⟨g, off + j * 3 + 2, none⟩ = some (.string ⟨(gUs us j).sec.toArray⟩) := by
  obtain ⟨g, off, e, hg, hc⟩ := h.2 (by omega)
  have hj' : j < us.length := by rw [← h.1]; exact hj
  have hp : us[j] = gUs us j := by simp [gUs, List.getD, hj']
  have := hc j hj'
  rw [hp] at this
  exact ⟨g, off, e, this 0 _ rfl, this 1 _ rfl, this 2 _ rfl⟩
set_option maxRecDepth 100000 in
set_option maxHeartbeats 1000000 in
theorem isU_any (b : Nat) (x : ClaimD) (v : Value) (u : UserD) (w : World) (hb : LB w b x v) : Calls Tryz.prog 82 #[.agg (userC u).toArray, .pointer (some ⟨b, 0, none⟩)] w fun e w' => e = .returned (.bool (isU x.id u)) ∧ Q w w' := by
  obtain ⟨n, i, s⟩ := u
  obtain ⟨xi, xd, xr, xs, xn⟩ := x
  have hR : isU xi ⟨n, i, s⟩ = (i == xi) := rfl
  have HR := Lib.hid hR
  have HB := Lib.hid hb
  show Calls Tryz.prog 82 #[.agg #[.string ⟨n.toArray⟩, .string ⟨i.toArray⟩, .string ⟨s.toArray⟩], .pointer (some ⟨b, 0, none⟩)] w fun e w' => e = .returned (.bool (isU xi ⟨n, i, s⟩)) ∧ Q w w'
  clear hb hR
  go_enter Tryz.func82, Tryz.ntmps82
  go_upto_region 1 with (fail)
  obtain ⟨W, hW⟩ : ∃ W, w.alloc (.cells #[.string ⟨n.toArray⟩, .string ⟨i.toArray⟩, .string ⟨s.toArray⟩] 26) = W := ⟨_, rfl⟩
  have hub : UB W w.heap.size ⟨n, i, s⟩ := by rw [← hW]; exact heap_alloc_new w _
  have hqW : Q w W := by rw [← hW]; exact (Q.refl w).alloc _
  obtain ⟨N, hN⟩ : ∃ N, w.heap.size = N := ⟨_, rfl⟩
  rw [hN] at hub ⊢
  rw [hW]
  have c0 := hub.c.2.1
  have c1 := (HB.out.q hqW).c.1
  have HQX := Lib.hid hqW
  simp only at c0 c1
  clear hW hN hub hqW
  go_wp2_with fail
  go_ret
  rw [HR.out]
  exact ⟨rfl, HQX.out⟩
theorem enters_isU : ∀ args w, (callFunc 82 args).run Tryz.prog w = .ok (.enter 82 args) w := enters_of Tryz.func82 (by kernel_rfl) rfl
theorem pred_isU (b : Nat) (x : ClaimD) (v : Value) (w : World) (hb : LB w b x v) : PredBelow Tryz.prog 82 #[.pointer (some ⟨b, 0, none⟩)] (fun u : UserD => .agg (userC u).toArray) (fun u => isU x.id u) w := fun W u hb2 =>
  (isU_any b x v u W (hb.q hb2)).mono fun e w' ⟨he, hq⟩ => ⟨he, hb2.trans (Below.mono hq hb2.size)⟩
theorem index_v0 (A : Option Addr) (cap : Nat) (f : Value) (w : World) : Calls Tryz.prog 81 #[.slice A 0 cap, f] w fun e w' => e = .returned (.int .i64 (-1)) ∧ Q w w' := by
  go_enter Tryz.func81, Tryz.ntmps81
  go_wp2_with fail
  go_loopw [8] (fun i wr => i = .int .i64 0 ∧ Q w wr) (fun i _ => (intOf i).toNat)
  case atStart => exact ⟨rfl, Q.refl _⟩
  case round =>
    obtain ⟨rfl, hq⟩ := hrel
    have HQ := Lib.hid hq
    clear hq
    go_wp2_with fail
    go_ret
    exact ⟨rfl, HQ.out⟩
def idxU (id : List UInt8) (us : List UserD) : Int := match us.findIdx? (isU id) with | none => -1 | some k => (k : Int)
theorem idxU_by (id : List UInt8) (us : List UserD) : Lib.idxBy (fun _ y => isU id y) us default = idxU id us := by
  have key : ∀ (l : List UserD) (i : Nat), Lib.idxByFrom (fun _ (y : UserD) => isU id y) default l i = match l.findIdx? (isU id) with | none => -1 | some k => ((i + k : Nat) : Int) := by
    intro l
    induction l with
    | nil => intro i; simp [Lib.idxByFrom]
    | cons a r ih =>
      intro i
      unfold Lib.idxByFrom
      rw [List.findIdx?_cons]
      by_cases ha : isU id a = true
      · rw [if_pos ha]; simp [ha]
      · rw [if_neg ha, ih]
        have ha' : isU id a = false := by simpa using ha
        rw [ha']
        generalize List.findIdx? (isU id) r = fi
        rcases fi with _ | k
        · rfl
        · show ((i + 1 + k : Nat) : Int) = ((i + (k + 1) : Nat) : Int)
          congr 1; omega
  have := key us 0
  unfold Lib.idxBy idxU
  rw [this]
  rcases us.findIdx? (isU id) with _ | k <;> simp
theorem indexU_any (A : Option Addr) (n cap b : Nat) (us : List UserD) (x : ClaimD) (v : Value) (w : World) (h : UsersAt w A n us) (hb : LB w b x v) (hn : n ≤ 9223372036854775807) :
    Calls Tryz.prog 81 #[.slice A n cap, .func (.func 82) #[] #[.pointer (some ⟨b, 0, none⟩)]] w fun e w' => e = .returned (.int .i64 (idxU x.id us)) ∧ Q w w' := by
  by_cases h0 : n = 0
  · subst h0
    have : us = [] := List.eq_nil_of_length_eq_zero h.1.symm
    subst this
    exact index_v0 A cap _ w
  · obtain ⟨g, off, rfl, hg, hc⟩ := h.2 (by omega)
    have := AnyQ.slices_IndexFunc lUi6 3 Tryz.isAgg26 Tryz.sizeOf26 (fun u : UserD => userC u) (fun _ => rfl) (fun u => isU x.id u) 82 #[.pointer (some ⟨b, 0, none⟩)] enters_isU g off n cap us w (pred_isU b x v w hb)
      (by rw [← h.1]; exact Nat.le_refl _) hn hg (fun j hj i v hv => hc j hj i v (by rw [getElem!_pos us j hj] at hv; exact hv))
    refine this.mono ?_
    rintro e w' ⟨rfl, hb⟩
    rw [List.take_of_length_le (by rw [h.1]; exact Nat.le_refl _), idxU_by]
    exact ⟨rfl, hb⟩
theorem idxU_find (id : List UInt8) (us : List UserD) : (idxU id us = -1 ∧ us.find? (fun u => u.id == id) = none) ∨ ∃ k : Nat, k < us.length ∧ idxU id us = k ∧ us.find? (fun u => u.id == id) = some (gUs us k) := by
  unfold idxU
  rcases hf : us.findIdx? (isU id) with _ | k
  · left
    refine ⟨rfl, ?_⟩
    rw [List.find?_eq_none]
    intro u hu
    have := List.findIdx?_eq_none_iff.1 hf u hu
    unfold isU at this
    simpa using this
  · right
    obtain ⟨hk, h1, h2⟩ := List.findIdx?_eq_some_iff_getElem.1 hf
    refine ⟨k, hk, rfl, ?_⟩
    rw [List.find?_eq_some_iff_getElem]
    have hg : gUs us k = us[k] := by simp [gUs, List.getD, hk]
    refine ⟨by rw [hg]; exact h1, k, hk, hg.symm, fun j hj => ?_⟩
    have := h2 j hj
    unfold isU at this
    simpa using this
theorem has_any (A : Option Addr) (n cap : Nat) (ls : List (List UInt8)) (t : List UInt8) (w : World) (h : NmAt w A n ls) (hn : n ≤ 9223372036854775807) :
    Calls Tryz.prog 80 #[.slice A n cap, .string ⟨t.toArray⟩] w fun e w' => e = .returned (.bool (decide (t ∈ ls))) ∧ Q w w' := by
  by_cases h0 : n = 0
  · subst h0
    have : ls = [] := List.eq_nil_of_length_eq_zero h.1.symm
    subst this
    refine (Tryz.slices_Contains_string_empty A cap ⟨t.toArray⟩ w).mono ?_
    rintro e w' ⟨rfl, rfl⟩
    exact ⟨rfl, Q.refl _⟩
  · obtain ⟨g, off, rfl, hg, hcell⟩ := h.2 (by omega)
    have hlen := h.1
    have hml : (ls.map fun l => (⟨l.toArray⟩ : ByteArray)).length = n := by rw [List.length_map]; exact hlen.symm
    refine (Tryz.slices_Contains_string g off n cap (ls.map fun l => (⟨l.toArray⟩ : ByteArray)) ⟨t.toArray⟩ w (by rw [hml]; exact Nat.le_refl _) hn (fun j hj => ?_)).mono ?_
    · rw [hml] at hj
      rw [hcell j (by omega)]
      simp only [List.getD_eq_getElem?_getD, List.getElem?_map, List.getElem?_eq_getElem (show j < ls.length by omega), gL, Option.map_some, Option.getD_some]
    · rintro e w' ⟨rfl, rfl⟩
      refine ⟨?_, Q.refl _⟩
      congr 2
      rw [List.take_of_length_le (by rw [hml]; exact Nat.le_refl _), Bool.eq_iff_iff, Lib.containsS_iff, decide_eq_true_eq, List.mem_map]
      constructor
      · rintro ⟨l, hl, e⟩
        have : l = t := by
          have := congrArg (fun b : ByteArray => b.data.toList) e
          simpa using this
        rw [← this]; exact hl
      · intro h; exact ⟨t, h, rfl⟩
def stE (l : List UInt8) : Int := match stampQ l with | some _ => 0 | none => 51
def stT (l : List UInt8) : Int := (stampQ l).getD 0
theorem ReadStampQ (l : List UInt8) (w : World) (ht : Tab w) (hl : l.length ≤ 140737488355328) : Calls Tryz.prog 79 #[.string ⟨l.toArray⟩] w fun e w' => e = .returned (.tuple #[.int .i64 (stT l), .int .i64 (stE l)]) ∧ Q w w' := by
  refine (ReadStamp_any l w ht hl).mono ?_
  rintro e w' ⟨r, x, rfl, hs, hq⟩
  rcases hs with ⟨rfl, ⟨r0, r1⟩, hr⟩ | ⟨rfl, rfl, hno⟩
  · have h := stampQ_some (l := l) (t := r) ⟨r0, r1⟩ hr
    unfold stE stT; rw [h]; exact ⟨rfl, hq⟩
  · have h := stampQ_none hno
    unfold stE stT; rw [h]; exact ⟨rfl, hq⟩
end Go.Proofs.YtmmoenbmgcplkaaGreatDoor
