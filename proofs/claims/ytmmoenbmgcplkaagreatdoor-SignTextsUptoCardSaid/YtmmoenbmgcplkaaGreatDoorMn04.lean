/- Texts of this proof, laid into one: UrG, SgB, ErA, ErV, Sha. -/
import Derived.Test.YtmmoenbmgcplkaaGreatDoorMn03
import Derived.Shelf.Strings.SlTrimAscii
import Derived.Shelf.Strings.FuncGrows
import Derived.ScopeJumps
import Derived.WalkMore
import Derived.Deep.LoopGhost
import Derived.Lib.DecodeN
import Derived.Laws.BitsAllLaws
import Derived.Lib.MapLaws
import Derived.Shelf.Unicode.Decode
import Derived.Outline
import Derived.WalkKit
import Derived.LaidEql
import Derived.Stop.Asserts
import Derived.RowKitTokens
/- Plain: pieces between bytes; a text trimmed to nothing; runes that a test fits; small letters. -/
set_option linter.unusedVariables false
set_option linter.unusedSimpArgs false
namespace Go.Proofs.YtmmoenbmgcplkaaGreatDoor
open Go Go.RowKit
/-- A text's pieces between the bytes c. -/
def splitC (c : UInt8) : List UInt8 → List (List UInt8)
  | [] => [[]]
  | x :: r => if x = c then [] :: splitC c r else match splitC c r with | [] => [[x]] | h :: t => (x :: h) :: t
theorem splitC_ne (c : UInt8) (l : List UInt8) : splitC c l ≠ [] := by
  rcases l with _ | ⟨x, r⟩
  · simp [splitC]
  · unfold splitC; split
    · simp
    · split <;> simp
theorem splitK_one (c : UInt8) : ∀ l : List UInt8, Lib.splitK [c] 0 (l.count c) l = splitC c l := by
  intro l
  induction l with
  | nil => simp [Lib.splitK, splitC]
  | cons x r ih =>
    unfold splitC
    by_cases h : x = c
    · subst h
      rw [if_pos rfl, List.count_cons_self, Lib.splitK, index_one_cons, if_pos rfl, ← ih]
      simp
    · rw [if_neg h, List.count_cons_of_ne h, ← ih]
      have hge := index_one_ge c r
      rcases r.count c with _ | k
      · simp [Lib.splitK]
      · rw [Lib.splitK, Lib.splitK, index_one_cons, if_neg h]
        by_cases h1 : Lib.index r [c] = -1
        · simp [h1]
        · have e : (Lib.index r [c] + 1).toNat = (Lib.index r [c]).toNat + 1 := by omega
          have h2 : ¬ ((Lib.index r [c] + 1 == -1) = true) := by simp; omega
          have h3 : ¬ ((Lib.index r [c] == -1) = true) := by simp; omega
          rw [if_neg h1, if_neg h2, if_neg h3, e]
          simp [Nat.add_right_comm]
theorem splitB_one (c : UInt8) (l : List UInt8) : (Lib.splitB ⟨#[c]⟩ 0 (Lib.countB ⟨l.toArray⟩ ⟨#[c]⟩) ⟨l.toArray⟩).map Value.string = (splitC c l).map strV := by
  have h := Lib.splitB_data ⟨#[c]⟩ 0 (Lib.countB ⟨l.toArray⟩ ⟨#[c]⟩) ⟨l.toArray⟩
  have hk : Lib.countB ⟨l.toArray⟩ ⟨#[c]⟩ = l.count c := Lib.count_one c l
  rw [hk] at h ⊢
  have h' : (Lib.splitB ⟨#[c]⟩ 0 (l.count c) ⟨l.toArray⟩).map (·.data.toList) = splitC c l := h.trans (splitK_one c l)
  rw [← h', List.map_map]
  rfl
theorem splitC_count (c : UInt8) (l : List UInt8) : (splitC c l).length = l.count c + 1 := by
  induction l with
  | nil => simp [splitC]
  | cons x r ih =>
    unfold splitC
    by_cases h : x = c
    · subst h; rw [if_pos rfl, List.count_cons_self]; simp [ih]
    · rw [if_neg h, List.count_cons_of_ne h]
      have := splitC_ne c r
      rcases hs : splitC c r with _ | ⟨a, t⟩
      · exact absurd hs this
      · rw [hs] at ih; simpa using ih
theorem splitC_len (c : UInt8) (l : List UInt8) : ∀ p ∈ splitC c l, p.length ≤ l.length := by
  induction l with
  | nil => simp [splitC]
  | cons x r ih =>
    unfold splitC
    split
    · intro p hp
      rcases List.mem_cons.1 hp with rfl | hp
      · simp
      · have := ih p hp; simp; omega
    · rcases hs : splitC c r with _ | ⟨a, t⟩
      · simp
      · rw [hs] at ih
        intro p hp
        rcases List.mem_cons.1 hp with rfl | hp
        · have := ih a List.mem_cons_self; simp; omega
        · have := ih p (List.mem_cons_of_mem _ hp); simp; omega
theorem dropWhile_nil {α} (p : α → Bool) (l : List α) : l.dropWhile p = [] ↔ ∀ x ∈ l, p x = true := by
  induction l with
  | nil => simp
  | cons a r ih =>
    rw [List.dropWhile_cons]
    by_cases h : p a = true
    · simp [h, ih]
    · simp [h]
theorem trimS_nil (l cs : List UInt8) : Lib.trimS l cs = [] ↔ ∀ x ∈ l, cs.contains x = true := by
  unfold Lib.trimS Lib.trimLeftS Lib.trimRightS
  rw [dropWhile_nil]
  constructor
  · intro h
    have h2 : l.reverse.dropWhile (cs.contains ·) = [] := by
      rcases hd : l.reverse.dropWhile (cs.contains ·) with _ | ⟨a, t⟩
      · rfl
      · exfalso
        have ha : cs.contains a = true := h a (by rw [hd]; simp)
        have := List.head_dropWhile_not (p := (cs.contains ·)) (l := l.reverse) (by rw [hd]; simp)
        simp only [hd, List.head_cons] at this
        rw [ha] at this; cases this
    rw [dropWhile_nil] at h2
    intro x hx
    exact h2 x (by simpa using hx)
  · intro h x hx
    refine h x ?_
    have := List.mem_reverse.1 hx
    exact List.mem_reverse.1 ((List.dropWhile_suffix _).subset this)
theorem decode_high (s : ByteArray) (pos : Nat) (h : ¬ (s.get! pos).toNat < 128) : 127 ≤ (Utf8.decode s pos).1 := by
  unfold Utf8.decode
  simp only [Nat.add_zero]
  rw [if_neg h]
  unfold Utf8.runeError
  repeat' split
  all_goals simp_all
  all_goals omega
theorem decode_low (s : ByteArray) (pos : Nat) (h : (s.get! pos).toNat < 128) : Utf8.decode s pos = ((s.get! pos).toNat, 1) := by
  unfold Utf8.decode
  simp only [Nat.add_zero]
  rw [if_pos h]
theorem get_gB (l : List UInt8) (k : Nat) (h : k < l.length) : (ByteArray.mk l.toArray).get! k = gB l k := by
  show l.toArray[k]! = _
  simp [gB, List.getD, h]
theorem idx_from (p : Nat → Bool) (hp : ∀ r, 127 ≤ r → p r = true) (l : List UInt8) : ∀ f pos, l.length ≤ pos + f → (decide (0 ≤ Lib.idxFuncFrom p true ⟨l.toArray⟩ f pos) = (l.drop pos).any fun b => p b.toNat) := by
  have hsz : (ByteArray.mk l.toArray).size = l.length := rfl
  intro f
  induction f with
  | zero => intro pos h; rw [List.drop_of_length_le (by omega)]; simp [Lib.idxFuncFrom]
  | succ f ih =>
    intro pos h
    unfold Lib.idxFuncFrom
    by_cases hlt : pos < l.length
    · rw [if_pos (by rw [hsz]; exact hlt), drop_consB l pos hlt, List.any_cons]
      have hg := get_gB l pos hlt
      by_cases hb : (gB l pos).toNat < 128
      · rw [decode_low _ _ (by rw [hg]; exact hb), hg]
        by_cases hpp : p (gB l pos).toNat = true
        · rw [if_pos hpp, hpp]; simp
        · rw [if_neg hpp, ih (pos + 1) (by omega)]; simp [hpp]
      · rw [if_pos (hp _ (decode_high _ _ (by rw [hg]; exact hb)))]
        rw [hp _ (by omega)]
        simp
    · rw [if_neg (by rw [hsz]; exact hlt), List.drop_of_length_le (by omega)]; simp
theorem idx_any (p : Nat → Bool) (hp : ∀ r, 127 ≤ r → p r = true) (l : List UInt8) : decide (0 ≤ Lib.idxFunc p true ⟨l.toArray⟩) = l.any fun b => p b.toNat := by
  unfold Lib.idxFunc
  have := idx_from p hp l (ByteArray.mk l.toArray).size 0 (by show l.length ≤ 0 + l.length; omega)
  simpa using this
theorem lowerA_id (l : List UInt8) : Lib.toLowerA l = l ↔ ∀ b ∈ l, ¬ (65 ≤ b.toNat ∧ b.toNat ≤ 90) := by
  have h1 : ∀ n : Fin 256, (Lib.lowerB n.val.toUInt8 = n.val.toUInt8) ↔ ¬ (65 ≤ n.val.toUInt8.toNat ∧ n.val.toUInt8.toNat ≤ 90) := by decide +kernel
  have h2 : ∀ b : UInt8, Lib.lowerB b = b ↔ ¬ (65 ≤ b.toNat ∧ b.toNat ≤ 90) := fun b => by have := h1 ⟨b.toNat, b.toNat_lt⟩; simpa using this
  unfold Lib.toLowerA
  induction l with
  | nil => simp
  | cons x r ih =>
    simp only [List.map_cons, List.cons.injEq, List.forall_mem_cons]
    exact and_congr (h2 x) ih
end Go.Proofs.YtmmoenbmgcplkaaGreatDoor
/- strings.EqualFold of any text and one of bytes below 128, as far as it is asked here: of texts of one length. -/
set_option linter.unusedVariables false
set_option linter.unusedSimpArgs false
namespace Go.Proofs.YtmmoenbmgcplkaaGreatDoor
open Go Go.RowKit
def smB (b : UInt8) : UInt8 := if 65 ≤ b.toNat ∧ b.toNat ≤ 90 then b + 32 else b
def smL (l : List UInt8) : List UInt8 := l.map smB
theorem smB_nat (b : UInt8) : (smB b).toNat = if 65 ≤ b.toNat ∧ b.toNat ≤ 90 then b.toNat + 32 else b.toNat := by
  unfold smB
  split
  · rw [UInt8.toNat_add]; have : (32 : UInt8).toNat = 32 := rfl; rw [this]; omega
  · rfl
theorem smB_eq (x y : UInt8) : smB x = smB y ↔ (x.toNat = y.toNat ∨ (65 ≤ x.toNat ∧ x.toNat ≤ 90 ∧ y.toNat = x.toNat + 32) ∨ (65 ≤ y.toNat ∧ y.toNat ≤ 90 ∧ x.toNat = y.toNat + 32)) := by
  rw [← UInt8.toNat_inj, smB_nat, smB_nat]
  split <;> split <;> omega
theorem smL_all {s t : List UInt8} (h : s.length = t.length) (ha : ∀ j, j < s.length → smB (gB s j) = smB (gB t j)) : smL s = smL t := by
  unfold smL
  refine List.ext_getElem (by simpa using h) fun i h1 h2 => ?_
  simp only [List.length_map] at h1 h2
  have := ha i h1
  rw [List.getElem_map, List.getElem_map]
  simpa [gB, List.getD, h1, h2] using this
theorem smL_not {s t : List UInt8} {k : Nat} (hk : k < s.length) (hk2 : k < t.length) (h : smB (gB s k) ≠ smB (gB t k)) : smL s ≠ smL t := by
  intro e
  have h1 := congrArg (·[k]?) e
  unfold smL at h1
  simp only [List.getElem?_map, List.getElem?_eq_getElem hk, List.getElem?_eq_getElem hk2, Option.map_some, Option.some.injEq] at h1
  apply h
  simpa [gB, List.getD, hk, hk2] using h1
section
variable {l : Nat} {J : Act → World → Prop} {Q : Exit → Act → World → Prop} {a : Act} {w : World}
@[go_sem] theorem jump_ret : Exit.jump l J Q .ret a w = Q .ret a w := rfl
@[go_sem] theorem jump_normal : Exit.jump l J Q .normal a w = Q .normal a w := rfl
@[go_sem] theorem jump_exit (i : Nat) : Exit.jump l J Q (.exit i) a w = Q (.exit i) a w := rfl
@[go_sem] theorem jump_panic (c : List PanicEntry) : Exit.jump l J Q (.panic c) a w = Q (.panic c) a w := rfl
end
theorem or128 (a b : UInt8) : (128 ≤ bits .or .u8 (a.toNat : Int) (b.toNat : Int)) ↔ (128 ≤ a.toNat ∨ 128 ≤ b.toNat) := by
  have ha := a.toNat_lt
  have hb := b.toNat_lt
  rw [u8_or_nat a.toNat b.toNat (by omega) (by omega)]
  have h1 : a.toNat ≤ a.toNat ||| b.toNat := Nat.left_le_or
  have h2 : b.toNat ≤ a.toNat ||| b.toNat := Nat.right_le_or
  constructor
  · intro h
    refine Decidable.byContradiction fun hn => ?_
    have h3 : a.toNat ||| b.toNat < 2 ^ 7 := Nat.or_lt_two_pow (by omega) (by omega)
    omega
  · intro h; omega
/-- What is known where the jump is made. -/
structure AtJump (s t : List UInt8) (k : Nat) : Prop where
  hs : k < s.length
  ht : k < t.length
  hb : 128 ≤ (gB s k).toNat
def JumpA (s t : List UInt8) (w0 : World) (a : Act) (w : World) : Prop := ∃ k : Nat, AtJump s t k ∧ w = w0 ∧ a.defers = [] ∧ a.tmps.size = 123 ∧ a.tmps.getD 0 undef = .string ⟨s.toArray⟩ ∧ a.tmps.getD 1 undef = .string ⟨t.toArray⟩ ∧ a.tmps.getD 5 undef = .int .i64 (k : Int)
theorem arr_getD (A : Array Value) : A = ((List.range A.size).map fun i => A.getD i undef).toArray := by
  apply Array.ext
  · simp
  · intro i h1 h2; simp [Array.getD, h1]
set_option maxRecDepth 100000 in
theorem frame123 (a : Act) (hd : a.defers = []) (hs : a.tmps.size = 123) : ∃ f : Nat → Value, a = ⟨#[f 0, f 1, f 2, f 3, f 4, f 5, f 6, f 7, f 8, f 9, f 10, f 11, f 12, f 13, f 14, f 15, f 16, f 17, f 18, f 19, f 20, f 21, f 22, f 23, f 24, f 25, f 26, f 27, f 28, f 29, f 30, f 31, f 32, f 33, f 34, f 35, f 36, f 37, f 38, f 39, f 40, f 41, f 42, f 43, f 44, f 45, f 46, f 47, f 48, f 49, f 50, f 51, f 52, f 53, f 54, f 55, f 56, f 57, f 58, f 59, f 60, f 61, f 62, f 63, f 64, f 65, f 66, f 67, f 68, f 69, f 70, f 71, f 72, f 73, f 74, f 75, f 76, f 77, f 78, f 79, f 80, f 81, f 82, f 83, f 84, f 85, f 86, f 87, f 88, f 89, f 90, f 91, f 92, f 93, f 94, f 95, f 96, f 97, f 98, f 99, f 100, f 101, f 102, f 103, f 104, f 105, f 106, f 107, f 108, f 109, f 110, f 111, f 112, f 113, f 114, f 115, f 116, f 117, f 118, f 119, f 120, f 121, f 122], []⟩ ∧ ∀ i, f i = a.tmps.getD i undef := by
  obtain ⟨t, ds⟩ := a
  simp only at hd hs
  subst hd
  have h := arr_getD t
  rw [hs] at h
  exact ⟨fun i => t.getD i undef, congrArg (fun x => (⟨x, []⟩ : Act)) h, fun i => rfl⟩
theorem dec_facts (l : List UInt8) (pos : Nat) (h : pos < l.length) : 1 ≤ (Utf8.decode ⟨l.toArray⟩ pos).2 ∧ pos + (Utf8.decode ⟨l.toArray⟩ pos).2 ≤ l.length ∧ (Utf8.decode ⟨l.toArray⟩ pos).1 ≤ 1114111 ∧
    (128 ≤ (gB l pos).toNat → 128 ≤ (Utf8.decode ⟨l.toArray⟩ pos).1 ∧ ((Utf8.decode ⟨l.toArray⟩ pos).2 = 1 → (Utf8.decode ⟨l.toArray⟩ pos).1 = 65533)) := by
  have hsz : (ByteArray.mk l.toArray).size = l.length := rfl
  have hg : (ByteArray.mk l.toArray).get! pos = gB l pos := get_gB l pos h
  rw [Lib.decode_at, hsz, hg]
  have h8 := (gB l pos).toNat_lt
  rcases Lib.decodeN_shape (l.length - pos) (gB l pos).toNat ((ByteArray.mk l.toArray).get! (pos + 1)).toNat ((ByteArray.mk l.toArray).get! (pos + 2)).toNat ((ByteArray.mk l.toArray).get! (pos + 3)).toNat with ⟨c, e⟩ | ⟨c1, c2, c3, c4, e⟩ | ⟨c1, c2, c3, c4, c5, c6, e⟩ | ⟨c1, c2, c3, c4, c5, c6, c7, e⟩ | e
  all_goals
    rw [e]
    simp only
    refine ⟨by omega, by omega, by omega, fun hb => ⟨by omega, fun h1 => by omega⟩⟩
set_option maxRecDepth 100000 in
set_option maxHeartbeats 4000000 in
theorem EqualFold_any (s t : List UInt8) (w : World) (hs : s.length ≤ 100000000) (ht : t.length ≤ 1000) (hta : ∀ b ∈ t, b.toNat < 128) (hF : Folds w) :
    Calls Tryz.prog 61 #[.string ⟨s.toArray⟩, .string ⟨t.toArray⟩] w fun e w' => ∃ r, e = .returned (.bool r) ∧ (s.length = t.length → r = decide (smL s = smL t)) ∧ Q w w' := by
  have HF := Lib.hid hF
  have HTA : Hid (∀ j, j < t.length → (gB t j).toNat < 128) := Lib.hid (fun j hj => hta _ (by rw [show gB t j = t[j] by simp [gB, List.getD, hj]]; exact List.getElem_mem hj))
  obtain ⟨M, hM⟩ : ∃ M : Nat, min (s.length : Int) (t.length : Int) = (M : Int) := ⟨min s.length t.length, by omega⟩
  have hMs : M ≤ s.length := by omega
  have hMt : M ≤ t.length := by omega
  have hMe : M = s.length ∨ M = t.length := by omega
  clear hF hta
  go_enter Tryz.func61, Tryz.ntmps61
  go_wp2_with fail
  refine wp_scope_jumps 0 (JumpA s t w) (fun _ _ => 0) rfl ?_ ?_
  · go_wp2_with fail
    clear hM
    go_loop [5] (fun i => ∃ k : Nat, k ≤ M ∧ i = .int .i64 (k : Int) ∧ Hid (∀ j, j < k → (gB s j).toNat < 128 ∧ smB (gB s j) = smB (gB t j))) (fun i => M - (intOf i).toNat)
    case atStart => exact ⟨0, by omega, rfl, Lib.hid (fun j h => by omega)⟩
    case round =>
      obtain ⟨k, hk, rfl, HP⟩ := hrel
      by_cases hlt : k < M
      · have g1 : decide (k < M) = true := by simpa using hlt
        have hks : k < s.length := by omega
        have hkt : k < t.length := by omega
        have hor := or128 (gB s k) (gB t k)
        have hb128 := HTA.out k hkt
        by_cases ha : 128 ≤ (gB s k).toNat
        · have hge : 128 ≤ bits .or .u8 ((gB s k).toNat : Int) ((gB t k).toNat : Int) := hor.2 (.inl ha)
          have HA := Lib.hid ha
          clear hor ha
          obtain ⟨a, hga⟩ : ∃ a, gB s k = a := ⟨_, rfl⟩
          obtain ⟨b, hgb⟩ : ∃ b, gB t k = b := ⟨_, rfl⟩
          rw [hga, hgb] at hge
          have ha8 := a.toNat_lt
          generalize hX : bits .or .u8 (a.toNat : Int) (b.toNat : Int) = X at *
          go_wp2_with fail
          go_step3
          simp only [Exit.inBlock, Exit.then, Exit.jump]
          exact ⟨rfl, k, ⟨hks, hkt, HA.out⟩, rfl, rfl, rfl, rfl, rfl, rfl⟩
        · have hlt128 : ¬ 128 ≤ bits .or .u8 ((gB s k).toNat : Int) ((gB t k).toNat : Int) := fun h => by
            rcases hor.1 h with h | h <;> omega
          have HSE := Lib.hid (smB_eq (gB s k) (gB t k))
          clear hor
          obtain ⟨a, hga⟩ : ∃ a, gB s k = a := ⟨_, rfl⟩
          obtain ⟨b, hgb⟩ : ∃ b, gB t k = b := ⟨_, rfl⟩
          have HNo : Hid (smB (gB s k) = smB (gB t k) → False) ∨ Hid ((gB s k).toNat < 128 ∧ smB (gB s k) = smB (gB t k)) := by
            by_cases h : smB (gB s k) = smB (gB t k)
            · exact .inr (Lib.hid ⟨by omega, h⟩)
            · exact .inl (Lib.hid h)
          rw [hga] at hlt128 HSE ha
          rw [hgb] at hlt128 HSE hb128
          generalize hX : bits .or .u8 (a.toNat : Int) (b.toNat : Int) = X at *
          have HSN : Hid (smB (gB s k) = smB (gB t k) ↔ smB a = smB b) := Lib.hid (by rw [hga, hgb])
          by_cases hab : (b.toNat : Int) = (a.toNat : Int)
          · have q1 : ((b.toNat : Int) == (a.toNat : Int)) = true := by simpa using hab
            rcases HNo with HNo | HYes
            · exact (HNo.out (HSN.out.2 (HSE.out.2 (.inl (by omega))))).elim
            · clear HSE HSN hab
              have HP2 : Hid (∀ j, j < k + 1 → (gB s j).toNat < 128 ∧ smB (gB s j) = smB (gB t j)) := Lib.hid (fun j hj => by
                by_cases e : j = k
                · subst e; exact HYes.out
                · exact HP.out j (by omega))
              clear HP HYes
              go_wp2_with fail
              go_round
              case rel => exact ⟨k + 1, by omega, by go_num, HP2⟩
              case measure => simp [intOf]; omega
          · have q1 : ((b.toNat : Int) == (a.toNat : Int)) = false := by simpa using hab
            by_cases hba : (b.toNat : Int) < (a.toNat : Int)
            · by_cases hf : 65 ≤ (b.toNat : Int) ∧ (b.toNat : Int) ≤ 90 ∧ (a.toNat : Int) = (b.toNat : Int) + 32
              · obtain ⟨f1, f2, f3⟩ := hf
                rcases HNo with HNo | HYes
                · exact (HNo.out (HSN.out.2 (HSE.out.2 (.inr (.inr ⟨by omega, by omega, by omega⟩))))).elim
                · have f4 : ((a.toNat : Int) == (b.toNat : Int) + 97 - 65) = true := by simp only [beq_iff_eq]; omega
                  have f5 : ((a.toNat : Int) == (b.toNat : Int) + 32) = true := by simp only [beq_iff_eq]; omega
                  clear HSE HSN f3
                  have HP2 : Hid (∀ j, j < k + 1 → (gB s j).toNat < 128 ∧ smB (gB s j) = smB (gB t j)) := Lib.hid (fun j hj => by
                    by_cases e : j = k
                    · subst e; exact HYes.out
                    · exact HP.out j (by omega))
                  clear HP HYes
                  go_wp2_with fail
                  go_round
                  case rel => exact ⟨k + 1, by omega, by go_num, HP2⟩
                  case measure => simp [intOf]; omega
              · rcases HNo with HNo | HYes
                · clear HSE HSN
                  have hcs : ¬ 65 ≤ (b.toNat : Int) ∨ (65 ≤ (b.toNat : Int) ∧ ¬ (b.toNat : Int) ≤ 90) ∨ (65 ≤ (b.toNat : Int) ∧ (b.toNat : Int) ≤ 90 ∧ ((a.toNat : Int) == (b.toNat : Int) + 97 - 65) = false ∧ ((a.toNat : Int) == (b.toNat : Int) + 32) = false) := by
                    rw [beq_eq_false_iff_ne, beq_eq_false_iff_ne]; omega
                  clear hf
                  rcases hcs with f1 | ⟨f1, f2⟩ | ⟨f1, f2, f3, f4⟩
                  all_goals
                    have HNE : Hid (smL s ≠ smL t) := Lib.hid (smL_not (k := k) (by omega) (by omega) (fun e => HNo.out e))
                    clear HNo HP
                    go_wp2_with fail
                    ((try simp only [Exit.inBlock, Exit.then, Exit.jump]); refine bodyPost_ret (results_tmp rfl _ _ _) rfl ?_)
                    exact ⟨false, rfl, fun _ => (decide_eq_false HNE.out).symm, Q.refl _⟩
                · exact (hf (by have := HSE.out.1 (HSN.out.1 HYes.out.2); omega)).elim
            · by_cases hf : 65 ≤ (a.toNat : Int) ∧ (a.toNat : Int) ≤ 90 ∧ (b.toNat : Int) = (a.toNat : Int) + 32
              · obtain ⟨f1, f2, f3⟩ := hf
                rcases HNo with HNo | HYes
                · exact (HNo.out (HSN.out.2 (HSE.out.2 (.inr (.inl ⟨by omega, by omega, by omega⟩))))).elim
                · have f4 : ((b.toNat : Int) == (a.toNat : Int) + 97 - 65) = true := by simp only [beq_iff_eq]; omega
                  have f5 : ((b.toNat : Int) == (a.toNat : Int) + 32) = true := by simp only [beq_iff_eq]; omega
                  clear HSE HSN f3
                  have HP2 : Hid (∀ j, j < k + 1 → (gB s j).toNat < 128 ∧ smB (gB s j) = smB (gB t j)) := Lib.hid (fun j hj => by
                    by_cases e : j = k
                    · subst e; exact HYes.out
                    · exact HP.out j (by omega))
                  clear HP HYes
                  go_wp2_with fail
                  go_round
                  case rel => exact ⟨k + 1, by omega, by go_num, HP2⟩
                  case measure => simp [intOf]; omega
              · rcases HNo with HNo | HYes
                · clear HSE HSN
                  have hcs : ¬ 65 ≤ (a.toNat : Int) ∨ (65 ≤ (a.toNat : Int) ∧ ¬ (a.toNat : Int) ≤ 90) ∨ (65 ≤ (a.toNat : Int) ∧ (a.toNat : Int) ≤ 90 ∧ ((b.toNat : Int) == (a.toNat : Int) + 97 - 65) = false ∧ ((b.toNat : Int) == (a.toNat : Int) + 32) = false) := by
                    rw [beq_eq_false_iff_ne, beq_eq_false_iff_ne]; omega
                  clear hf
                  rcases hcs with f1 | ⟨f1, f2⟩ | ⟨f1, f2, f3, f4⟩
                  all_goals
                    have HNE : Hid (smL s ≠ smL t) := Lib.hid (smL_not (k := k) (by omega) (by omega) (fun e => HNo.out e))
                    clear HNo HP
                    go_wp2_with fail
                    ((try simp only [Exit.inBlock, Exit.then, Exit.jump]); refine bodyPost_ret (results_tmp rfl _ _ _) rfl ?_)
                    exact ⟨false, rfl, fun _ => (decide_eq_false HNE.out).symm, Q.refl _⟩
                · exact (hf (by have := HSE.out.1 (HSN.out.1 HYes.out.2); omega)).elim
      · obtain rfl : k = M := by omega
        have HAll : Hid (s.length = t.length → smL s = smL t) := Lib.hid (fun h => smL_all h (fun j hj => (HP.out j (by omega)).2))
        have hst : (s.length : Int) = (t.length : Int) ∨ ¬ (s.length : Int) = (t.length : Int) := by omega
        clear HP hlt
        rcases hst with hst | hst
        · have q1 : ((s.length : Int) == (t.length : Int)) = true := by simpa using hst
          have HE := Lib.hid (HAll.out (by omega))
          clear hst HAll
          go_wp2_with fail
          ((try simp only [Exit.inBlock, Exit.then, Exit.jump]); refine bodyPost_ret (results_tmp rfl _ _ _) rfl ?_)
          refine ⟨true, ?_, fun _ => (decide_eq_true HE.out).symm, Q.refl _⟩
          first | rfl | (show Ending.returned (.bool _) = .returned (.bool true); simp [q1])
        · have q1 : ((s.length : Int) == (t.length : Int)) = false := by simpa using hst
          clear HAll
          go_wp2_with fail
          ((try simp only [Exit.inBlock, Exit.then, Exit.jump]); refine bodyPost_ret (results_tmp rfl _ _ _) rfl ?_)
          refine ⟨false, ?_, fun h => (hst (by omega)).elim, Q.refl _⟩
          first | rfl | (show Ending.returned (.bool _) = .returned (.bool false); simp [q1])
  · intro a w' hJ
    obtain ⟨k, hA, rfl, hdef, hsz, h0, h1, h5⟩ := hJ
    obtain ⟨f, hfa, hfi⟩ := frame123 a hdef hsz
    rw [← hfi] at h0 h1 h5
    rw [hfa, h0, h1, h5]
    clear hfi hfa h0 h1 h5
    have HNE : Hid (smL s ≠ smL t) := Lib.hid (smL_not hA.hs hA.ht (fun e => by
      have h1 := congrArg UInt8.toNat e
      rw [smB_nat, smB_nat] at h1
      have h2 := hA.hb
      have h3 := HTA.out k hA.ht
      split at h1 <;> split at h1 <;> omega))
    have hks := hA.hs
    have hkt := hA.ht
    have HB := Lib.hid hA.hb
    clear hdef hsz a hA hM hMs hMt hMe
    have e1 : sub s k s.length = s.drop k := by unfold sub; rw [List.take_length]
    have e2 : sub t k t.length = t.drop k := by unfold sub; rw [List.take_length]
    obtain ⟨S, hS⟩ : ∃ S, sub s k s.length = S := ⟨_, rfl⟩
    obtain ⟨T, hT⟩ : ∃ T, sub t k t.length = T := ⟨_, rfl⟩
    have hSl : S.length = s.length - k := by rw [← hS, e1]; simp
    have hTl : T.length = t.length - k := by rw [← hT, e2]; simp
    have HS0 : Hid (128 ≤ (gB S 0).toNat) := Lib.hid (by rw [← hS, e1]; simpa [gB] using HB.out)
    have HT : Hid (∀ j, j < T.length → (gB T j).toNat < 128) := Lib.hid (fun j hj => by
      rw [hTl] at hj
      have := HTA.out (k + j) (by omega)
      rw [← hT, e2]; simpa [gB] using this)
    clear e1 e2 HB HTA
    go_wp2_with fail
    have hST : s.length = t.length → S.length = T.length := fun h => by omega
    have hSp : 0 < S.length := by omega
    have HSTL := Lib.hid hST
    have hS9 : S.length ≤ 100000000 := by omega
    have hT9 : T.length ≤ 1000 := by omega
    clear hST hSl hTl hs ht hks hkt hS hT
    have hsz : (ByteArray.mk S.toArray).size = S.length := rfl
    have h00 : (w'.iter ⟨S.toArray⟩ 0).heap[w'.heap.size]? = some (.stringIter ⟨S.toArray⟩ 0) := World.iter_heap w' ⟨S.toArray⟩ 0
    have hq0 : Q w' (w'.iter ⟨S.toArray⟩ 0) := (Below.refl _ w').alloc (Nat.le_refl _) _
    obtain ⟨N, hN⟩ : ∃ N, w'.heap.size = N := ⟨_, rfl⟩
    rw [hN] at h00 ⊢
    have HN := Lib.hid hN
    have H00 := Lib.hid h00
    have HQ0 := Lib.hid hq0
    clear h00 hq0 hN
    go_loopw [1] (fun tv wx => ∃ pos q : Nat, tv = .string ⟨(T.drop q).toArray⟩ ∧ pos ≤ S.length ∧ q ≤ T.length ∧ (pos = 0 ∧ q = 0 ∨ q < pos) ∧ Hid (wx.heap[N]? = some (.stringIter ⟨S.toArray⟩ pos)) ∧ Hid (Q w' wx)) (fun _ wx => S.length - wx.iterPos N)
    case atStart => exact ⟨0, 0, by simp, by omega, by omega, .inl ⟨rfl, rfl⟩, H00, HQ0⟩
    case round =>
      obtain ⟨pos, q, rfl, hp, hq, hpq, HI, HW⟩ := hrel
      by_cases hps : pos < S.length
      · have hnx : ∀ ty, (Instr.next (.pointer (some ⟨N, 0, none⟩)) true ty).run Tryz.prog wr = _ := fun ty => Lib.run_next_any_at wr N ⟨S.toArray⟩ pos ty HI.out hps
        have HD := Lib.hid (dec_facts S pos hps)
        obtain ⟨R, hR⟩ : ∃ R, (Utf8.decode ⟨S.toArray⟩ pos).1 = R := ⟨_, rfl⟩
        obtain ⟨K, hK⟩ : ∃ K, (Utf8.decode ⟨S.toArray⟩ pos).2 = K := ⟨_, rfl⟩
        rw [hR, hK] at hnx HD
        clear hR hK
        have hi2 := Lib.iterAt_heap wr N ⟨S.toArray⟩ pos (pos + K) HI.out
        have hb2 := Lib.below_iterAt HW.out (k := N) (by rw [HN.out]; exact Nat.le_refl _) ⟨S.toArray⟩ (pos + K)
        obtain ⟨W, hWd⟩ : ∃ W, wr.iterAt N ⟨S.toArray⟩ (pos + K) = W := ⟨_, rfl⟩
        rw [hWd] at hnx hi2 hb2
        have HI2 := Lib.hid hi2
        have HW2 : Hid (Q w' W) := Lib.hid hb2
        have hd1 := HD.out.1
        have hd2 := HD.out.2.1
        have hd3 := HD.out.2.2.1
        clear hWd hi2 hb2 HW
        by_cases hqt : q < T.length
        · have hde : T.drop q = gB T q :: T.drop (q + 1) := drop_consB T q hqt
          obtain ⟨c, hc⟩ : ∃ c, gB T q = c := ⟨_, rfl⟩
          have hc128 := HT.out q hqt
          rw [hc] at hde hc128
          have HDC := Lib.hid (Tryz.utf8_DecodeRuneInString_ascii ⟨(T.drop q).toArray⟩ c W (by show (T.drop q)[0]? = _; rw [hde]; rfl) hc128)
          have hdl : (T.drop q).length = T.length - q := by simp
          have hdr : sub (T.drop q) 1 (T.length - q) = T.drop (q + 1) := by
            unfold sub; rw [List.take_of_length_le (by omega), List.drop_drop]
          have HDR := Lib.hid hdr
          clear hde hc hdr
          obtain ⟨T', hT'⟩ : ∃ T', T.drop q = T' := ⟨_, rfl⟩
          rw [hT'] at hdl HDC HDR
          have HT' := Lib.hid hT'
          have hT1 : 1 ≤ T.length - q := by omega
          rw [hT']
          clear hT'
          have HPos : Hid (R < 128 → q < pos) := Lib.hid (fun h => by
            rcases hpq with ⟨h1, h2⟩ | h1
            · have h3 := HD.out.2.2.2 (by rw [h1]; exact HS0.out)
              omega
            · exact h1)
          have HPos2 : Hid (R ≤ 8490 → q + 1 < pos + K) := Lib.hid (fun h => by
            rcases hpq with ⟨h1, h2⟩ | h1
            · have h3 := HD.out.2.2.2 (by rw [h1]; exact HS0.out)
              omega
            · omega)
          have hPI : ∀ X : World, Hid (X.heap[N]? = some (.stringIter ⟨S.toArray⟩ (pos + K))) → S.length - X.iterPos N < S.length - wr.iterPos N := fun X hX => by
            have e1 : X.iterPos N = pos + K := by unfold World.iterPos; rw [hX.out]
            have e2 : wr.iterPos N = pos := by unfold World.iterPos; rw [HI.out]
            omega
          have HPI := Lib.hid hPI
          clear hpq HI HD hPI
          by_cases hcR : (c.toNat : Int) = (R : Int)
          · have q1 : ((c.toNat : Int) == (R : Int)) = true := by simpa using hcR
            have hlt : q + 1 < pos + K := by have := HPos.out (by omega); omega
            clear hcR
            go_wp2_with fail
            refine HDC.out.mono ?_
            rintro e wx ⟨rfl, rfl⟩
            go_wp2_with fail
            go_roundw
            case rel => exact ⟨pos + K, q + 1, by rw [HDR.out], by omega, by omega, .inr hlt, HI2, HW2⟩
            case measure => exact HPI.out _ HI2
          · have q1 : ((c.toNat : Int) == (R : Int)) = false := by rw [beq_eq_false_iff_ne]; exact hcR
            by_cases hR : R < 128
            · have hlt : q + 1 < pos + K := by have := HPos.out hR; omega
              by_cases hcl : (c.toNat : Int) < (R : Int)
              · have hR2 : (R : Int) < 128 := by omega
                by_cases hf : 65 ≤ (c.toNat : Int) ∧ (c.toNat : Int) ≤ 90 ∧ (R : Int) = (c.toNat : Int) + 32
                · obtain ⟨f1, f2, f3⟩ := hf
                  have f4 : ((R : Int) == (c.toNat : Int) + 97 - 65) = true := by simp only [beq_iff_eq]; omega
                  have f5 : ((R : Int) == (c.toNat : Int) + 32) = true := by simp only [beq_iff_eq]; omega
                  clear f3
                  go_wp2_with fail
                  refine HDC.out.mono ?_
                  rintro e wx ⟨rfl, rfl⟩
                  go_wp2_with fail
                  go_roundw
                  case rel => exact ⟨pos + K, q + 1, by rw [HDR.out], by omega, by omega, .inr hlt, HI2, HW2⟩
                  case measure => exact HPI.out _ HI2
                · have hcs : ¬ 65 ≤ (c.toNat : Int) ∨ (65 ≤ (c.toNat : Int) ∧ ¬ (c.toNat : Int) ≤ 90) ∨ (65 ≤ (c.toNat : Int) ∧ (c.toNat : Int) ≤ 90 ∧ ((R : Int) == (c.toNat : Int) + 97 - 65) = false ∧ ((R : Int) == (c.toNat : Int) + 32) = false) := by
                    rw [beq_eq_false_iff_ne, beq_eq_false_iff_ne]; omega
                  clear hf
                  rcases hcs with f1 | ⟨f1, f2⟩ | ⟨f1, f2, f3, f4⟩
                  all_goals
                    go_wp2_with fail
                    refine HDC.out.mono ?_
                    rintro e wx ⟨rfl, rfl⟩
                    go_wp2_with fail
                    ((try simp only [Exit.inBlock, Exit.then, Exit.jump]); refine bodyPost_ret (results_tmp rfl _ _ _) rfl ?_)
                    exact ⟨false, rfl, fun _ => (decide_eq_false HNE.out).symm, HW2.out⟩
              · have hc2 : (c.toNat : Int) < 128 := by omega
                by_cases hf : 65 ≤ (R : Int) ∧ (R : Int) ≤ 90 ∧ (c.toNat : Int) = (R : Int) + 32
                · obtain ⟨f1, f2, f3⟩ := hf
                  have f4 : ((c.toNat : Int) == (R : Int) + 97 - 65) = true := by simp only [beq_iff_eq]; omega
                  have f5 : ((c.toNat : Int) == (R : Int) + 32) = true := by simp only [beq_iff_eq]; omega
                  clear f3
                  go_wp2_with fail
                  refine HDC.out.mono ?_
                  rintro e wx ⟨rfl, rfl⟩
                  go_wp2_with fail
                  go_roundw
                  case rel => exact ⟨pos + K, q + 1, by rw [HDR.out], by omega, by omega, .inr hlt, HI2, HW2⟩
                  case measure => exact HPI.out _ HI2
                · have hcs : ¬ 65 ≤ (R : Int) ∨ (65 ≤ (R : Int) ∧ ¬ (R : Int) ≤ 90) ∨ (65 ≤ (R : Int) ∧ (R : Int) ≤ 90 ∧ ((c.toNat : Int) == (R : Int) + 97 - 65) = false ∧ ((c.toNat : Int) == (R : Int) + 32) = false) := by
                    rw [beq_eq_false_iff_ne, beq_eq_false_iff_ne]; omega
                  clear hf
                  rcases hcs with f1 | ⟨f1, f2⟩ | ⟨f1, f2, f3, f4⟩
                  all_goals
                    go_wp2_with fail
                    refine HDC.out.mono ?_
                    rintro e wx ⟨rfl, rfl⟩
                    go_wp2_with fail
                    ((try simp only [Exit.inBlock, Exit.then, Exit.jump]); refine bodyPost_ret (results_tmp rfl _ _ _) rfl ?_)
                    exact ⟨false, rfl, fun _ => (decide_eq_false HNE.out).symm, HW2.out⟩
            · have hcl : (c.toNat : Int) < (R : Int) := by omega
              have hR2 : ¬ (R : Int) < 128 := by omega
              obtain ⟨cn, hcn⟩ : ∃ cn, c.toNat = cn := ⟨_, rfl⟩
              rw [hcn] at hcl q1 HDC hc128 hcR
              clear hcn hcR
              go_wp2_with fail
              refine HDC.out.mono ?_
              rintro e wx ⟨rfl, rfl⟩
              go_wp2_with fail
              refine (SimpleFold_any cn (.inl hc128) _ (HF.out.q HW2.out)).mono ?_
              rintro e w2 ⟨rfl, hq2⟩
              have HI3 : Hid (w2.heap[N]? = some (.stringIter ⟨S.toArray⟩ (pos + K))) := Lib.hid (hq2.block HI2.out)
              have HW3 := Lib.hid (HW2.out.trans hq2)
              have HO1 := Lib.hid (foldN_in cn (.inl hc128)).1
              have HY1 := Lib.hid (way_first cn hc128)
              clear hq2 HI2 HW2 HDC
              go_wp2_with fail
              go_loopw [13] (fun rv wx => ∃ r : Nat, rv = .int .i32 (r : Int) ∧ r ≤ 8490 ∧ Hid (InOrb r) ∧ Hid (wayN cn r ≤ 2) ∧ Hid (wx.heap[N]? = some (.stringIter ⟨S.toArray⟩ (pos + K))) ∧ Hid (Q w' wx)) (fun rv _ => wayN cn (intOf rv).toNat)
              case atStart => exact ⟨foldN cn, rfl, (foldN_in cn (.inl hc128)).2, HO1, HY1, HI3, HW3⟩
              case round =>
                clear HO1 HY1 HI3 HW3
                obtain ⟨r, rfl, hr9, HO, HY, HI, HW⟩ := hrel
                by_cases hrc : r = cn
                · have p1 : ((r : Int) == (cn : Int)) = true := by simp [hrc]
                  have p3 : ((r : Int) != (cn : Int)) = false := by simp [bne, p1]
                  have p2 : ((r : Int) == (R : Int)) = false := by rw [beq_eq_false_iff_ne]; omega
                  clear hrc
                  go_wp2_with fail
                  ((try simp only [Exit.inBlock, Exit.then, Exit.jump]); refine bodyPost_ret (results_tmp rfl _ _ _) rfl ?_)
                  exact ⟨false, rfl, fun _ => (decide_eq_false HNE.out).symm, HW.out⟩
                · have p1 : ((r : Int) == (cn : Int)) = false := by rw [beq_eq_false_iff_ne]; omega
                  have p3 : ((r : Int) != (cn : Int)) = true := by simp [bne, p1]
                  have p4 : ¬ (r : Int) = (cn : Int) := by omega
                  by_cases hrR : r < R
                  · have hrR2 : (r : Int) < (R : Int) := by omega
                    have HN2 := Lib.hid (way_next hrc HY.out)
                    have HO2 := Lib.hid (foldN_in r HO.out)
                    clear hrc
                    go_wp2_with fail
                    refine (SimpleFold_any r HO.out _ (HF.out.q HW.out)).mono ?_
                    rintro e w3 ⟨rfl, hq3⟩
                    have HI3 : Hid (w3.heap[N]? = some (.stringIter ⟨S.toArray⟩ (pos + K))) := Lib.hid (hq3.block HI.out)
                    have HW3 := Lib.hid (HW.out.trans hq3)
                    clear hq3
                    go_wp2_with fail
                    go_roundw
                    case rel => exact ⟨foldN r, rfl, HO2.out.2, Lib.hid HO2.out.1, Lib.hid (by have h1 := HN2.out; have h2 := HY.out; omega), HI3, HW3⟩
                    case measure => have := HN2.out; simpa [intOf] using this
                  · have hrR2 : ¬ (r : Int) < (R : Int) := by omega
                    by_cases hre : r = R
                    · have p2 : ((r : Int) == (R : Int)) = true := by simp [hre]
                      have hlt := HPos2.out (by omega)
                      clear hre
                      go_wp2_with fail
                      go_roundw
                      case rel => exact ⟨pos + K, q + 1, by rw [HDR.out], by omega, by omega, .inr hlt, HI, HW⟩
                      case measure => exact HPI.out _ HI
                    · have p2 : ((r : Int) == (R : Int)) = false := by rw [beq_eq_false_iff_ne]; omega
                      clear hre
                      go_wp2_with fail
                      ((try simp only [Exit.inBlock, Exit.then, Exit.jump]); refine bodyPost_ret (results_tmp rfl _ _ _) rfl ?_)
                      exact ⟨false, rfl, fun _ => (decide_eq_false HNE.out).symm, HW.out⟩
        · have hde : T.drop q = [] := List.drop_eq_nil_of_le (by omega)
          have hdl : (T.drop q).length = 0 := by rw [hde]; rfl
          go_wp2_with fail
          ((try simp only [Exit.inBlock, Exit.then, Exit.jump]); refine bodyPost_ret (results_tmp rfl _ _ _) rfl ?_)
          exact ⟨false, rfl, fun _ => (decide_eq_false HNE.out).symm, HW2.out⟩
      · have hnx : ∀ ty, (Instr.next (.pointer (some ⟨N, 0, none⟩)) true ty).run Tryz.prog wr = _ := fun ty => Lib.run_next_end_at wr N ⟨S.toArray⟩ pos ty HI.out hps
        have hdl : (T.drop q).length = T.length - q := by simp
        have hqp : q < pos := by omega
        by_cases hTe : T.length - q = 0
        · have p1 : (((T.length - q : Nat) : Int) == 0) = true := by simp only [beq_iff_eq]; omega
          have HF2 : Hid (s.length = t.length → False) := Lib.hid (fun h => by have := HSTL.out h; omega)
          go_wp2_with fail
          ((try simp only [Exit.inBlock, Exit.then, Exit.jump]); refine bodyPost_ret (results_tmp rfl _ _ _) rfl ?_)
          exact ⟨_, rfl, fun h => (HF2.out h).elim, HW.out⟩
        · have p1 : (((T.length - q : Nat) : Int) == 0) = false := by rw [beq_eq_false_iff_ne]; omega
          go_wp2_with fail
          ((try simp only [Exit.inBlock, Exit.then, Exit.jump]); refine bodyPost_ret (results_tmp rfl _ _ _) rfl ?_)
          refine ⟨false, ?_, fun _ => (decide_eq_false HNE.out).symm, HW.out⟩
          first | rfl | (show Ending.returned (.bool _) = .returned (.bool false); simp [p1])
end Go.Proofs.YtmmoenbmgcplkaaGreatDoor
/- Errors: what fault makes. -/
set_option linter.unusedVariables false
namespace Go.Proofs.YtmmoenbmgcplkaaGreatDoor
open Go Go.RowKit
/-- A *api.Fault of a code at a place, of nothing inner, in a block of its own. -/
def FaultAt (w : World) (b : Nat) (c a : Int) : Prop := w.heap[b]? = some (.cells #[.int .i64 c, .int .i64 a, .nilIface] 105 (0, 0))
theorem FaultAt.q {w w' : World} {b : Nat} {c a : Int} (h : FaultAt w b c a) (hq : Q w w') : FaultAt w' b c a := hq.block h
theorem FaultAt.cell0 {w : World} {b : Nat} {c a : Int} (h : FaultAt w b c a) : w.cell? ⟨b, 0, none⟩ = some (.int .i64 c) := by
  unfold FaultAt at h; simp [World.cell?, h]
theorem FaultAt.cell1 {w : World} {b : Nat} {c a : Int} (h : FaultAt w b c a) : w.cell? ⟨b, 1, none⟩ = some (.int .i64 a) := by
  unfold FaultAt at h; simp [World.cell?, h]
theorem FaultAt.cell2 {w : World} {b : Nat} {c a : Int} (h : FaultAt w b c a) : w.cell? ⟨b, 2, none⟩ = some .nilIface := by
  unfold FaultAt at h; simp [World.cell?, h]

/-- What an error says: 0: none. -/
def ErrIs (w : World) (v : Value) (c a : Int) : Prop := (c = 0 ∧ v = .nilIface) ∨ (c ≠ 0 ∧ ∃ b, v = .iface 101 (.pointer (some ⟨b, 0, none⟩)) ∧ FaultAt w b c a)
theorem ErrIs.q {w w' : World} {v : Value} {c a : Int} (h : ErrIs w v c a) (hq : Q w w') : ErrIs w' v c a := by
  rcases h with h | ⟨h0, b, h1, h2⟩
  · exact .inl h
  · exact .inr ⟨h0, b, h1, h2.q hq⟩
end Go.Proofs.YtmmoenbmgcplkaaGreatDoor
/- errors.As at a **api.Fault, of a *api.Fault. (Turned from the guide's worked toy.) -/

set_option linter.unusedVariables false
set_option linter.unusedSimpArgs false
namespace Go.Proofs.YtmmoenbmgcplkaaGreatDoor
open Go Go.RowKit Go.Extern.Stop Go.Stop Go.Extern
theorem ras_valueOf27 (t : Addr) (w : World) : (ReflectliteValue.unpack (.iface 103 (.pointer (some t)))).run Tryz.prog w
    = .ok (.agg #[.pointer (some ⟨10, 103, none⟩), .pointer (some ⟨w.heap.size, 0, none⟩), .int .u64 150]) (w.alloc (.cells #[.pointer (some t)] 103)) := by kernel_rfl
theorem ras_type27 (a : Addr) (w : World) : (ReflectliteValue.methodAny (ReflectliteValue.valueError "reflectlite.Value.Type" 0) (fun t _ _ _ => ReflectliteType.toType t) #[.agg #[.pointer (some ⟨10, 103, none⟩), .pointer (some a), .int .u64 150]]).run Tryz.prog w
    = .ok (.iface 215 (.agg #[.pointer (some ⟨10, 103, none⟩)])) w := by kernel_rfl
theorem ras_methodKind (h : Value) (w : World) : (Go.method 405 215 (.agg #[h]) "Kind").run Tryz.prog w = .ok (235, h) w := by kernel_rfl
theorem ras_kind27 (w : World) : ((ReflectliteType.abiMethod fun t => Functor.map (fun a : Nat => Value.int IntKind.u8 (a : Int)) (Rtype.kind t)) #[.pointer (some ⟨10, 103, none⟩)]).run Tryz.prog w = .ok (.int .u8 22) w := by kernel_rfl
theorem ras_kind25 (w : World) : ((ReflectliteType.abiMethod fun t => Functor.map (fun a : Nat => Value.int IntKind.u8 (a : Int)) (Rtype.kind t)) #[.pointer (some ⟨10, 101, none⟩)]).run Tryz.prog w = .ok (.int .u8 22) w := by kernel_rfl

theorem rlm (z : Sem Value) (f : TypeId → Addr → Nat → Nat → Sem Value) (v : Value) :
    ReflectliteValue.method z f #[v] = (do match ← ReflectliteValue.parts v with | none => z | some (t, a, fl) => f t a fl (fl % 32)) := rfl
theorem ras_parts27 (a : Addr) (w : World) : (ReflectliteValue.parts (.agg #[.pointer (some ⟨10, 103, none⟩), .pointer (some a), .int .u64 150])).run Tryz.prog w = .ok (some (103, a, 150)) w := by kernel_rfl
theorem ras_isNil27 (a p : Addr) (W : World) (ha : W.cell? a = some (.pointer (some p))) :
    (ReflectliteValue.method (ReflectliteValue.valueError "reflectlite.Value.IsNil" 0) ReflectliteValue.isNil #[.agg #[.pointer (some ⟨10, 103, none⟩), .pointer (some a), .int .u64 150]]).run Tryz.prog W = .ok (.bool false) W := by
  rw [rlm]
  simp only [Sem.run_bind, ras_parts27, Result.andThen]
  simp [ReflectliteValue.isNil, loadVar, isAgg, underlying, Tryz.underlying103, ha, Result.andThen]

theorem ras_methodElem (h : Value) (w : World) : (Go.method 405 215 (.agg #[h]) "Elem").run Tryz.prog w = .ok (248, .agg #[h]) w := by kernel_rfl
theorem ras_methodImplements (h : Value) (w : World) : (Go.method 405 215 (.agg #[h]) "Implements").run Tryz.prog w = .ok (249, .agg #[h]) w := by kernel_rfl
theorem ras_methodAssignableTo (h : Value) (w : World) : (Go.method 405 215 (.agg #[h]) "AssignableTo").run Tryz.prog w = .ok (246, .agg #[h]) w := by kernel_rfl
theorem ras_elem27 (w : World) : (ReflectliteType.method ReflectliteType.elem #[.agg #[.pointer (some ⟨10, 103, none⟩)]]).run Tryz.prog w = .ok (.iface 215 (.agg #[.pointer (some ⟨10, 101, none⟩)])) w := by kernel_rfl
theorem ras_implements25 (w : World) : (ReflectliteType.relation "Implements" ReflectliteType.implements_ #[.agg #[.pointer (some ⟨10, 101, none⟩)], .iface 215 (.agg #[.pointer (some ⟨10, 60, none⟩)])]).run Tryz.prog w = .ok (.bool true) w := by kernel_rfl
theorem ras_typeOf25 (v : Value) (w : World) : (ReflectliteType.typeOf #[.iface 101 v]).run Tryz.prog w = .ok (.iface 215 (.agg #[.pointer (some ⟨10, 101, none⟩)])) w := by kernel_rfl
theorem ras_assignable25 (w : World) : (ReflectliteType.relation "AssignableTo" ReflectliteType.assignableTo #[.agg #[.pointer (some ⟨10, 101, none⟩)], .iface 215 (.agg #[.pointer (some ⟨10, 101, none⟩)])]).run Tryz.prog w = .ok (.bool true) w := by kernel_rfl
theorem ras_valueOf25 (e : Addr) (w : World) : (ReflectliteValue.unpack (.iface 101 (.pointer (some e)))).run Tryz.prog w
    = .ok (.agg #[.pointer (some ⟨10, 101, none⟩), .pointer (some ⟨w.heap.size, 0, none⟩), .int .u64 150]) (w.alloc (.cells #[.pointer (some e)] 101)) := by kernel_rfl

theorem ras_elemOf27 (w : World) : (Rtype.elem? 103).run Tryz.prog w = .ok (some 101) w := by kernel_rfl
theorem ras_mk25 (p : Addr) (w : World) : (ReflectliteValue.mk 101 p ReflectliteValue.flagAddr).run Tryz.prog w = .ok (.agg #[.pointer (some ⟨10, 101, none⟩), .pointer (some p), .int .u64 406]) w := by kernel_rfl
theorem ras_elemV27 (a p : Addr) (W : World) (ha : W.cell? a = some (.pointer (some p))) :
    (ReflectliteValue.method (ReflectliteValue.valueError "reflectlite.Value.Elem" 0) ReflectliteValue.elem #[.agg #[.pointer (some ⟨10, 103, none⟩), .pointer (some a), .int .u64 150]]).run Tryz.prog W
      = .ok (.agg #[.pointer (some ⟨10, 101, none⟩), .pointer (some p), .int .u64 406]) W := by
  rw [rlm]
  simp only [Sem.run_bind, ras_parts27, Result.andThen]
  simp [ReflectliteValue.elem, loadVar, isAgg, underlying, Tryz.underlying103, ha, Result.andThen, ras_elemOf27, ras_mk25]
theorem rls (v x : Value) : ReflectliteValue.set #[v, x] = (do
    let (some (dst, a, fl), some (src, b, _)) := (← ReflectliteValue.parts v, ← ReflectliteValue.parts x)
      | unsupported (.noEntry "extern/(internal/reflectlite.Value).Set.zeroValue")
    if fl / ReflectliteValue.flagAddr % 2 == 0 then unsupported (.noEntry "extern/(internal/reflectlite.Value).Set.unaddressable")
    let val ← loadVar src b
    if ← Rtype.directlyAssignable dst src then storeVar dst a val
    else if ← Rtype.implements dst src then
      if (← Rtype.kind src) == 20 then
        match val with
        | .nilIface => unsupported (.noEntry "extern/reflectlite: a nil value of one interface type handed on as a value of another")
        | _ => storeVar dst a val
      else storeVar dst a (.iface src val)
    else panicString ("reflectlite.Set: value of type " ++ (← Rtype.spelt src) ++ " is not assignable to type " ++ (← Rtype.spelt dst))
    pure (.tuple #[])) := rfl
theorem ras_parts25a (a : Addr) (w : World) : (ReflectliteValue.parts (.agg #[.pointer (some ⟨10, 101, none⟩), .pointer (some a), .int .u64 406])).run Tryz.prog w = .ok (some (101, a, 406)) w := by kernel_rfl
theorem ras_parts25 (a : Addr) (w : World) : (ReflectliteValue.parts (.agg #[.pointer (some ⟨10, 101, none⟩), .pointer (some a), .int .u64 150])).run Tryz.prog w = .ok (some (101, a, 150)) w := by kernel_rfl
theorem ras_direct25 (w : World) : (Rtype.directlyAssignable 101 101).run Tryz.prog w = .ok true w := by kernel_rfl
theorem ras_size25 (w : World) : (sizeOf 101).run Tryz.prog w = .ok 1 w := by kernel_rfl
theorem ras_set25 (ta b e : Addr) (old : Value) (W : World) (hb : W.cell? b = some (.pointer (some e))) (ht : W.cell? ta = some old) (hf : W.frozen? ta = false) :
    (ReflectliteValue.set #[.agg #[.pointer (some ⟨10, 101, none⟩), .pointer (some ta), .int .u64 406], .agg #[.pointer (some ⟨10, 101, none⟩), .pointer (some b), .int .u64 150]]).run Tryz.prog W
      = .ok (.tuple #[]) (W.setCell ta (.pointer (some e))) := by
  rw [rls]
  simp only [Sem.run_bind, ras_parts25a, ras_parts25, Result.andThen]
  simp [ReflectliteValue.flagAddr, loadVar, isAgg, underlying, Tryz.underlying101, hb, Result.andThen, ras_direct25, storeVar, Value.cells, storeCells, Addr.add]
  rw [run_store Tryz.prog W ta _ _ (by rfl)]
  simp [ht, hf]

set_option maxHeartbeats 4000000 in
theorem as_hit (e t : Addr) (old : Value) (w : World) (hg : w.cell? ⟨0, 0, none⟩ = some (.iface 215 (.agg #[.pointer (some ⟨10, 60, none⟩)]))) (ht0 : w.cell? t = some old) (hf0 : w.frozen? t = false) :
    Calls Tryz.prog 74 #[.iface 101 (.pointer (some e)), .iface 103 (.pointer (some t))] w fun ev w' => ev = .returned (.bool true) ∧ w' = ((((w.alloc (.cells #[.pointer (some t)] 103)).alloc (.cells #[.pointer (some ⟨10, 103, none⟩), .pointer (some ⟨w.heap.size, 0, none⟩), .int .u64 150] 168)).alloc (.cells #[.pointer (some ⟨10, 103, none⟩), .pointer (some ⟨w.heap.size, 0, none⟩), .int .u64 150] 168)).alloc (.cells #[.pointer (some e)] 101)).setCell t (.pointer (some e)) := by
  have h6 := @run_callFunc_extern Tryz.prog 122 _ (fun args => ReflectliteValue.unpack (args.getD 0 (.tuple #[]))) Tryz.func122 (by kernel_rfl) (by kernel_rfl) (by kernel_rfl) (by kernel_rfl)
  have h7 := @run_callFunc_extern Tryz.prog 123 _ (ReflectliteValue.methodAny (ReflectliteValue.valueError "reflectlite.Value.Type" 0) (fun t _ _ _ => ReflectliteType.toType t)) Tryz.func123 (by kernel_rfl) (by kernel_rfl) (by kernel_rfl) (by kernel_rfl)
  have h8 := @run_callFunc_extern Tryz.prog 124 _ (ReflectliteValue.method (ReflectliteValue.valueError "reflectlite.Value.IsNil" 0) ReflectliteValue.isNil) Tryz.func124 (by kernel_rfl) (by kernel_rfl) (by kernel_rfl) (by kernel_rfl)
  have h27 := @run_callFunc_extern Tryz.prog 235 _ (ReflectliteType.abiMethod fun t => do pure (.int .u8 (← Rtype.kind t))) Tryz.func235 (by kernel_rfl) (by kernel_rfl) (by kernel_rfl) (by kernel_rfl)
  have h37 := @run_callFunc_extern Tryz.prog 248 _ (ReflectliteType.method ReflectliteType.elem) Tryz.func248 (by kernel_rfl) (by kernel_rfl) (by kernel_rfl) (by kernel_rfl)
  have h38 := @run_callFunc_extern Tryz.prog 249 _ (ReflectliteType.relation "Implements" ReflectliteType.implements_) Tryz.func249 (by kernel_rfl) (by kernel_rfl) (by kernel_rfl) (by kernel_rfl)
  have h10 := @run_callFunc_extern Tryz.prog 163 _ ReflectliteType.typeOf Tryz.func163 (by kernel_rfl) (by kernel_rfl) (by kernel_rfl) (by kernel_rfl)
  have h35 := @run_callFunc_extern Tryz.prog 246 _ (ReflectliteType.relation "AssignableTo" ReflectliteType.assignableTo) Tryz.func246 (by kernel_rfl) (by kernel_rfl) (by kernel_rfl) (by kernel_rfl)
  have h11 := @run_callFunc_extern Tryz.prog 164 _ (ReflectliteValue.method (ReflectliteValue.valueError "reflectlite.Value.Elem" 0) ReflectliteValue.elem) Tryz.func164 (by kernel_rfl) (by kernel_rfl) (by kernel_rfl) (by kernel_rfl)
  have h12 := @run_callFunc_extern Tryz.prog 165 _ ReflectliteValue.set Tryz.func165 (by kernel_rfl) (by kernel_rfl) (by kernel_rfl) (by kernel_rfl)
  have tO := ras_typeOf25
  have mA := ras_methodAssignableTo
  have a25 := ras_assignable25
  have v25 := ras_valueOf25
  have f6 := ras_valueOf27
  have f7 := ras_type27
  have mK := ras_methodKind
  have mE := ras_methodElem
  have mI := ras_methodImplements
  have k27 := ras_kind27
  have k25 := ras_kind25
  have e27 := ras_elem27
  have i25 := ras_implements25
  have n8 := ras_isNil27 ⟨w.heap.size, 0, none⟩ t ((w.alloc (.cells #[.pointer (some t)] 103)).alloc (.cells #[.pointer (some ⟨10, 103, none⟩), .pointer (some ⟨w.heap.size, 0, none⟩), .int .u64 150] 168)) (by simp)
  have hlt : 0 < w.heap.size := by
    rcases Nat.eq_zero_or_pos w.heap.size with h0 | h
    · simp [World.cell?, h0] at hg
    · exact h
  have hg2 : ((w.alloc (.cells #[.pointer (some t)] 103)).alloc (.cells #[.pointer (some ⟨10, 103, none⟩), .pointer (some ⟨w.heap.size, 0, none⟩), .int .u64 150] 168)).cell? ⟨0, 0, none⟩ = some (.iface 215 (.agg #[.pointer (some ⟨10, 60, none⟩)])) := by
    rw [World.cell?_alloc_lt _ _ ⟨0, 0, none⟩ (by simp), World.cell?_alloc_lt _ _ ⟨0, 0, none⟩ hlt]; exact hg
  have htl : t.block < w.heap.size := by
    rcases Nat.lt_or_ge t.block w.heap.size with h | h
    · exact h
    · simp [World.cell?, Array.getElem?_eq_none h] at ht0
  have el := ras_elemV27 ⟨w.heap.size, 0, none⟩ t (((w.alloc (.cells #[.pointer (some t)] 103)).alloc (.cells #[.pointer (some ⟨10, 103, none⟩), .pointer (some ⟨w.heap.size, 0, none⟩), .int .u64 150] 168)).alloc (.cells #[.pointer (some ⟨10, 103, none⟩), .pointer (some ⟨w.heap.size, 0, none⟩), .int .u64 150] 168)) (by rw [World.cell?_alloc_lt _ _ ⟨w.heap.size, 0, none⟩ (by simp; omega)]; simp)
  have st := ras_set25 t ⟨w.heap.size + 1 + 1 + 1, 0, none⟩ e old ((((w.alloc (.cells #[.pointer (some t)] 103)).alloc (.cells #[.pointer (some ⟨10, 103, none⟩), .pointer (some ⟨w.heap.size, 0, none⟩), .int .u64 150] 168)).alloc (.cells #[.pointer (some ⟨10, 103, none⟩), .pointer (some ⟨w.heap.size, 0, none⟩), .int .u64 150] 168)).alloc (.cells #[.pointer (some e)] 101))
    (by rw [World.cell?_alloc_at _ _ _ _ (by simp)]; rfl)
    (by rw [World.cell?_alloc_lt _ _ t (by simp; omega), World.cell?_alloc_lt _ _ t (by simp; omega), World.cell?_alloc_lt _ _ t (by simp; omega), World.cell?_alloc_lt _ _ t htl]; exact ht0)
    (by rw [World.frozen?_alloc_old _ _ t (by simp; omega), World.frozen?_alloc_old _ _ t (by simp; omega), World.frozen?_alloc_old _ _ t (by simp; omega), World.frozen?_alloc_old _ _ t (Nat.ne_of_lt htl)]; exact hf0)
  go_enter Tryz.func74, Tryz.ntmps74
  go_wp2
  refine wp_loop_rounds 1 ?_
  rw [rounds_succ]
  go_wp2
  go_ret
  exact ⟨rfl, rfl⟩
end Go.Proofs.YtmmoenbmgcplkaaGreatDoor
/- SHA-256 and MD5, plain: on lists of bytes. -/
set_option linter.unusedVariables false
namespace Go.Proofs.YtmmoenbmgcplkaaGreatDoor
abbrev B32 := BitVec 32
def rl (s : Nat) (x : B32) : B32 := (x <<< s) ||| (x >>> (32 - s))
def xo (x y : B32) : B32 := x ^^^ y
def an (x y : B32) : B32 := x &&& y
def oo (x y : B32) : B32 := x ||| y
def no (x : B32) : B32 := ~~~ x
def ad (x y : B32) : B32 := x + y
def sr (n : Nat) (x : B32) : B32 := x >>> n
/-- Four bytes, the highest first, the lowest first. -/
def be (a b c d : UInt8) : B32 := BitVec.ofNat 32 (a.toNat * 16777216 + b.toNat * 65536 + c.toNat * 256 + d.toNat)
/-- The word at a place. -/
def gW (l : List B32) (i : Nat) : B32 := l.getD i 0#32
def k256 : List B32 := [
    1116352408, 1899447441, 3049323471, 3921009573, 961987163, 1508970993, 2453635748, 2870763221,
    3624381080, 310598401, 607225278, 1426881987, 1925078388, 2162078206, 2614888103, 3248222580,
    3835390401, 4022224774, 264347078, 604807628, 770255983, 1249150122, 1555081692, 1996064986,
    2554220882, 2821834349, 2952996808, 3210313671, 3336571891, 3584528711, 113926993, 338241895,
    666307205, 773529912, 1294757372, 1396182291, 1695183700, 1986661051, 2177026350, 2456956037,
    2730485921, 2820302411, 3259730800, 3345764771, 3516065817, 3600352804, 4094571909, 275423344,
    430227734, 506948616, 659060556, 883997877, 958139571, 1322822218, 1537002063, 1747873779,
    1955562222, 2024104815, 2227730452, 2361852424, 2428436474, 2756734187, 3204031479, 3329325298]
def k5 : List B32 := [
    3614090360, 3905402710, 606105819, 3250441966, 4118548399, 1200080426, 2821735955, 4249261313,
    1770035416, 2336552879, 4294925233, 2304563134, 1804603682, 4254626195, 2792965006, 1236535329,
    4129170786, 3225465664, 643717713, 3921069994, 3593408605, 38016083, 3634488961, 3889429448,
    568446438, 3275163606, 4107603335, 1163531501, 2850285829, 4243563512, 1735328473, 2368359562,
    4294588738, 2272392833, 1839030562, 4259657740, 2763975236, 1272893353, 4139469664, 3200236656,
    681279174, 3936430074, 3572445317, 76029189, 3654602809, 3873151461, 530742520, 3299628645,
    4096336452, 1126891415, 2878612391, 4237533241, 1700485571, 2399980690, 4293915773, 2240044497,
    1873313359, 4264355552, 2734768916, 1309151649, 4149444226, 3174756917, 718787259, 3951481745]
def mixS (x : B32) : B32 := xo (xo (rl 25 x) (rl 14 x)) (sr 3 x)
def mixT (x : B32) : B32 := xo (xo (rl 15 x) (rl 13 x)) (sr 10 x)
/-- One word more of a block's 64. -/
def wordN (b : List UInt8) (w : List B32) (i : Nat) : B32 :=
  if i < 16 then be (gB b (4 * i)) (gB b (4 * i + 1)) (gB b (4 * i + 2)) (gB b (4 * i + 3))
  else ad (ad (ad (gW w (i - 16)) (mixS (gW w (i - 15)))) (gW w (i - 7))) (mixT (gW w (i - 2)))
def wordsN (b : List UInt8) : Nat → List B32
  | 0 => []
  | n + 1 => let w := wordsN b n; w ++ [wordN b w n]
structure St8 where
  (a b c d e f g h : B32)
def round8 (w : List B32) (s : St8) (i : Nat) : St8 :=
  let t := ad (ad (ad (ad s.h (xo (xo (rl 26 s.e) (rl 21 s.e)) (rl 7 s.e))) (xo (an s.e s.f) (an (no s.e) s.g))) (gW k256 i)) (gW w i)
  let u := ad (xo (xo (rl 30 s.a) (rl 19 s.a)) (rl 10 s.a)) (xo (xo (an s.a s.b) (an s.a s.c)) (an s.b s.c))
  ⟨ad t u, s.a, s.b, s.c, ad s.d t, s.e, s.f, s.g⟩
def roundsN (w : List B32) (s : St8) : Nat → St8
  | 0 => s
  | n + 1 => round8 w (roundsN w s n) n
def add8 (s t : St8) : St8 := ⟨ad s.a t.a, ad s.b t.b, ad s.c t.c, ad s.d t.d, ad s.e t.e, ad s.f t.f, ad s.g t.g, ad s.h t.h⟩
/-- One block of 64 bytes. -/
def mix256L (s : St8) (b : List UInt8) : St8 := add8 s (roundsN (wordsN b 64) s 64)
def start256 : St8 := ⟨0x6a09e667#32, 0xbb67ae85#32, 0x3c6ef372#32, 0xa54ff53a#32, 0x510e527f#32, 0x9b05688c#32, 0x1f83d9ab#32, 0x5be0cd19#32⟩
/-- The first n blocks of a text. -/
def blocks256 (l : List UInt8) : Nat → St8
  | 0 => start256
  | n + 1 => mix256L (blocks256 l n) (sub l (64 * n) (64 * n + 64))
/-- A text with a bit 1, bits 0 and its size behind it. -/
def padL (high : Bool) (l : List UInt8) : List UInt8 :=
  let z : Nat := (119 - l.length % 64) % 64
  let b : List UInt8 := (List.range 8).map fun i => byteOf ((((8 * l.length) / 256 ^ i % 256 : Nat) : Int))
  l ++ [128] ++ List.replicate z 0 ++ (if high then b.reverse else b)
def be4 (x : B32) : List UInt8 := [byteOf ((x.toNat / 16777216 % 256 : Nat) : Int), byteOf ((x.toNat / 65536 % 256 : Nat) : Int), byteOf ((x.toNat / 256 % 256 : Nat) : Int), byteOf ((x.toNat % 256 : Nat) : Int)]
def out8 (s : St8) : List UInt8 := be4 s.a ++ be4 s.b ++ be4 s.c ++ be4 s.d ++ be4 s.e ++ be4 s.f ++ be4 s.g ++ be4 s.h
def sha256 (l : List UInt8) : List UInt8 := let p := padL true l; out8 (blocks256 p (p.length / 64))
theorem wordsN_length (b : List UInt8) (n : Nat) : (wordsN b n).length = n := by
  induction n with
  | zero => rfl
  | succ n ih => simp [wordsN, ih]
/-- The words so far, the others 0. -/
def wordsZ (b : List UInt8) (k : Nat) : List B32 := wordsN b k ++ List.replicate (64 - k) 0#32
theorem wordsZ_old (b : List UInt8) (k i : Nat) (h : i < k) : gW (wordsZ b k) i = gW (wordsN b k) i := by
  unfold gW wordsZ
  simp [List.getD, List.getElem?_append, wordsN_length, h]
theorem wordsZ_set (b : List UInt8) (k : Nat) (h : k < 64) : (wordsZ b k).set k (wordN b (wordsN b k) k) = wordsZ b (k + 1) := by
  unfold wordsZ
  rw [List.set_append, if_neg (by rw [wordsN_length]; omega), wordsN_length, Nat.sub_self]
  have e : 64 - k = (64 - (k + 1)) + 1 := by omega
  rw [e, List.replicate_succ]
  simp [wordsN]
theorem wordsZ_all (b : List UInt8) : wordsZ b 64 = wordsN b 64 := by simp [wordsZ]
theorem be_bits (a b c d : UInt8) : bits .or .u32 (bits .or .u32 (bits .or .u32 ((a.toNat : Int) % 4294967296 * 16777216 % 4294967296) ((b.toNat : Int) % 4294967296 * 65536 % 4294967296)) ((c.toNat : Int) % 4294967296 * 256 % 4294967296)) ((d.toNat : Int) % 4294967296) =
    ((be a b c d).toNat : Int) := by
  have a1 := a.toNat_lt
  have b1 := b.toNat_lt
  have c1 := c.toNat_lt
  have d1 := d.toNat_lt
  have wr : ∀ n : Int, 0 ≤ n → n < 2 ^ 32 → IntKind.u32.wrap n = n := fun n h0 h1 => by rw [IntKind.wrap_u32]; omega
  rw [show (a.toNat : Int) % 4294967296 * 16777216 % 4294967296 = (a.toNat : Int) * 16777216 from by omega, show (b.toNat : Int) % 4294967296 * 65536 % 4294967296 = (b.toNat : Int) * 65536 from by omega,
    show (c.toNat : Int) % 4294967296 * 256 % 4294967296 = (c.toNat : Int) * 256 from by omega, show (d.toNat : Int) % 4294967296 = (d.toNat : Int) from by omega]
  rw [bits_join .u32 32 (by decide) wr 24 ((a.toNat : Int) * 16777216) ((b.toNat : Int) * 65536) (by omega) (by omega) (by omega) (by omega) (by omega) (by omega)]
  rw [bits_join .u32 32 (by decide) wr 16 ((a.toNat : Int) * 16777216 + (b.toNat : Int) * 65536) ((c.toNat : Int) * 256) (by omega) (by omega) (by omega) (by omega) (by omega) (by omega)]
  rw [bits_join .u32 32 (by decide) wr 8 ((a.toNat : Int) * 16777216 + (b.toNat : Int) * 65536 + (c.toNat : Int) * 256) (d.toNat : Int) (by omega) (by omega) (by omega) (by omega) (by omega) (by omega)]
  unfold be
  rw [BitVec.toNat_ofNat]
  omega
end Go.Proofs.YtmmoenbmgcplkaaGreatDoor
