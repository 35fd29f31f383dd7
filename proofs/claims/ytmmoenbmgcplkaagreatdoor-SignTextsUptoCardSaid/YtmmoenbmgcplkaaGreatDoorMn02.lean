/- Texts of this proof, laid into one: UrA, UrB, UrC, Pure, Qt, Mix. -/
import Derived.Test.YtmmoenbmgcplkaaGreatDoorMn01
import Derived.Deep.RegionWith
import Derived.OrdersHeld
import Derived.StillTail
/- letter; a strings.Builder's WriteByte. -/
set_option linter.unusedVariables false
set_option linter.unusedSimpArgs false
namespace Go.Proofs.YtmmoenbmgcplkaaGreatDoor
open Go Go.RowKit
def letterL (b : UInt8) : Bool := (97 ≤ b.toNat && b.toNat ≤ 122) || (65 ≤ b.toNat && b.toNat ≤ 90) || (48 ≤ b.toNat && b.toNat ≤ 57)
theorem infoBuilder7 : Builder.Extra Tryz.prog lays167_ren := {
  sizeBuilder := by kernel_rfl
  liesBuilder := by kernel_rfl
  t5 := Tryz.underlying5
  a5 := Tryz.isAgg5
  z5 := Tryz.sizeOf5
  v5 := Tryz.zeroValue5
  infoByte := by kernel_rfl
  cellsByte := by kernel_rfl
  sizeByte := by kernel_rfl
  neB5 := by decide }
theorem bldByte {w0 : World} (b : Nat) (l : List UInt8) (c : UInt8) (w : World) (h : BldAt w0 w b l) (hq : w0.heap.size ≤ w.heap.size) (hl : l.length + 1 ≤ 140737488355328) :
    Calls Tryz.prog 159 #[.pointer (some ⟨b, 0, none⟩), .int .u8 c.toNat] w fun e w' => e = .returned .nilIface ∧ BldAt w0 w' b (l ++ [c]) ∧ Below w0.heap.size w w' :=
  (Any.Builder_WriteByte lays167 infoBuilder7 w0.heap.size b (Lib.byteCells l) c.toNat w h (by rw [byteCells_length]; exact hl) hq).mono fun e w' ⟨h1, h2, h3⟩ =>
    ⟨h1, .inr (by rw [byteCells_append]; exact h2), h3⟩
set_option maxRecDepth 100000 in
set_option maxHeartbeats 4000000 in
theorem letter_any (b : UInt8) (w : World) :
    Calls Tryz.prog 114 #[.int .u8 b.toNat] w fun e w' => e = .returned (.bool (letterL b)) ∧ w' = w := by
  go_enter Tryz.func114, Tryz.ntmps114
  go_wp2_with fail
  all_goals
    go_ret
    refine ⟨?_, rfl⟩
    show Ending.returned (.bool _) = .returned (.bool _)
    refine congrArg _ (congrArg _ ?_)
    rw [Bool.eq_iff_iff]
    simp [letterL]
    try omega
/-- A builder in block b; its bytes lie at or above B. -/
def BO (B b : Nat) (l : List UInt8) (w : World) : Prop := b < B ∧ ∃ p v, w.heap[b]? = some (.cells #[p, v] 108 (0, 0)) ∧ (p = .pointer none ∨ p = .pointer (some ⟨b, 0, none⟩)) ∧ w.ownsRow B 5 1 v l.length (l.map u8V)
/-- What a write leaves as it was. -/
structure KB (B b : Nat) (w w' : World) : Prop where
  os : w'.os = w.os
  tape : w'.tape = w.tape
  output : w'.output = w.output
  size : w.heap.size ≤ w'.heap.size
  block : ∀ k, k < B → k ≠ b → w'.heap[k]? = w.heap[k]?
theorem KB.refl (B b : Nat) (w : World) : KB B b w w := ⟨rfl, rfl, rfl, Nat.le_refl _, fun _ _ _ => rfl⟩
theorem KB.trans {B b : Nat} {x y z : World} (h : KB B b x y) (k : KB B b y z) : KB B b x z :=
  ⟨k.os.trans h.os, k.tape.trans h.tape, k.output.trans h.output, Nat.le_trans h.size k.size, fun i h1 h2 => (k.block i h1 h2).trans (h.block i h1 h2)⟩
theorem KB.toQ {B b : Nat} {w0 w w' : World} (h : KB B b w w') (hq : Q w0 w) (hb : w0.heap.size ≤ b) (hB : b < B) : Q w0 w' :=
  Q.below hq ⟨h.os, h.tape, h.output, h.size, fun k hk => h.block k (by omega) (by omega)⟩
theorem KB.cell {B b : Nat} {w w' : World} {a : Addr} {v : Value} (h : KB B b w w') (h1 : a.block < B) (h2 : a.block ≠ b) (hc : w.cell? a = some v) : w'.cell? a = some v := by
  unfold World.cell? at *; rw [h.block _ h1 h2]; exact hc
theorem KB.q {B b : Nat} {w w' : World} (h : Q w w') (hs : B ≤ w.heap.size) : KB B b w w' := ⟨h.os, h.tape, h.output, h.size, fun k hk _ => Below.block h k (by omega)⟩
theorem BO.q {B b : Nat} {l : List UInt8} {w w' : World} (h : BO B b l w) (hq : Q w w') : BO B b l w' := by
  obtain ⟨h1, p, v, h2, h3, h4⟩ := h
  refine ⟨h1, p, v, hq.block h2, h3, h4.1, ?_⟩
  rcases h4.2 with h5 | ⟨g, cap, cur, hv, e1, e2, e3⟩
  · exact .inl h5
  · exact .inr ⟨g, cap, cur, hv, e1, hq.block e2, e3⟩
theorem BO.new (w w' : World) (b B : Nat) (hh : w.heap[b]? = some (.cells #[.pointer none, .slice none 0 0] 108 (0, 0))) (hb : b < B) : BO B b [] w := ⟨hb, _, _, hh, .inl rfl, rfl, .inl ⟨rfl, rfl⟩⟩
theorem copyCheck_bo (B b : Nat) (l : List UInt8) (w : World) (h : BO B b l w) :
    Calls Tryz.prog 126 #[.pointer (some ⟨b, 0, none⟩)] w fun e w' => e = .returned (.tuple #[]) ∧ (∃ v, w'.heap[b]? = some (.cells #[.pointer (some ⟨b, 0, none⟩), v] 108 (0, 0)) ∧ w'.ownsRow B 5 1 v l.length (l.map u8V)) ∧ w.grownBy w' (some b) ∧ w'.heap.size = w.heap.size := by
  obtain ⟨h1, p, v, h2, h3, h4⟩ := h
  have c0 : w.cell? ⟨b, 0, none⟩ = some p := by rw [cell_of_row _ _ _ _ _ _ h2]; rfl
  rcases h3 with rfl | rfl
  · refine (Any.Builder_copyCheck_fresh ({ lays166 with } : Lays.n240 Tryz.prog lays166_ren) infoBuilder.toX72 b w c0 (by unfold World.shape?; rw [h2]; rfl) (frozen_of_row w b 0 _ _ h2)).mono ?_
    rintro e w' ⟨he, rfl⟩
    refine ⟨he, ⟨v, by rw [heap_setCell_any w b 0 _ _ _ _ h2]; rfl, ?_⟩, gb_set (b := w) ⟨rfl, rfl, rfl, Nat.le_refl _, fun _ _ _ => rfl⟩ 0 _, by simp [World.setCell]⟩
    refine World.ownsRow.kept h4 (gb_set (b := w) ⟨rfl, rfl, rfl, Nat.le_refl _, fun _ _ _ => rfl⟩ 0 _) (.inr fun e => ?_)
    rcases h4.2 with ⟨rfl, _⟩ | ⟨g, cap, cur, rfl, hb, _⟩
    · cases e
    · have : g = b := by simpa [Value.ownBlock] using e
      omega
  · refine (Any.Builder_copyCheck_used ({ lays166 with } : Lays.n240 Tryz.prog lays166_ren) infoBuilder.toX72 b w c0).mono ?_
    rintro e w' ⟨he, rfl⟩
    exact ⟨he, ⟨v, h2, h4⟩, ⟨rfl, rfl, rfl, Nat.le_refl _, fun _ _ _ => rfl⟩, rfl⟩
theorem u8_info : (Tryz.prog.info? 5).map (fun i => (i.zero, i.size, i.bytes)) = some (some (.int .u8 0), 1, 1) := by kernel_rfl
theorem KB.of_gb {B b : Nat} {w w' : World} {row : Option Nat} (h : w.grownBy w' row) (hr : ∀ k, row = some k → k = b ∨ B ≤ k) (hs : B ≤ w.heap.size) : KB B b w w' :=
  ⟨h.os, h.tape, h.output, h.size, fun k hk hb => h.block k (by omega) (fun e => by rcases hr k e.symm with h1 | h1 <;> omega)⟩
theorem BO.bld {B b : Nat} {l : List UInt8} {w0 w : World} (h : BO B b l w) (h0 : w0.heap.size ≤ b) : BldAt w0 w b l := by
  obtain ⟨h1, p, v, h2, h3, h4⟩ := h
  have go : Lib.BuilderAt 108 5 w0.heap.size b p (Lib.byteCells l) w := by
    have hl : Lib.byteCells l = l.map u8V := rfl
    refine ⟨h0, v, h2, ?_, ?_⟩
    · rw [hl, List.length_map]
      refine ⟨h4.1, ?_⟩
      rcases h4.2 with h5 | ⟨g, cap, cur, hv, e1, e2, e3⟩
      · exact .inl h5
      · exact .inr ⟨g, cap, cur, hv, by omega, e2, e3⟩
    · rcases h4.2 with ⟨rfl, _⟩ | ⟨g, cap, cur, rfl, e1, _⟩
      · intro e; cases e
      · intro e; simp [Value.ownBlock] at e; omega
  rcases h3 with rfl | rfl
  · exact .inl go
  · exact .inr go
set_option maxRecDepth 100000 in
set_option maxHeartbeats 4000000 in
theorem boByte (B b : Nat) (l : List UInt8) (c : UInt8) (w : World) (h : BO B b l w) (hs : B ≤ w.heap.size) (hl : l.length + 1 ≤ 140737488355328) :
    Calls Tryz.prog 159 #[.pointer (some ⟨b, 0, none⟩), .int .u8 c.toNat] w fun e w' => e = .returned .nilIface ∧ BO B b (l ++ [c]) w' ∧ KB B b w w' := by
  obtain ⟨i0, hi, hz0, hz1, hz2⟩ := info_parts u8_info
  have hbB := h.1
  go_enter Tryz.func159, Tryz.ntmps159
  go_wp2_with fail
  refine (copyCheck_bo B b l w h).mono ?_
  rintro e w1 ⟨rfl, ⟨v, hbk, hown⟩, hg1, hz⟩
  clear h
  have c1 : w1.cell? ⟨b, 1, none⟩ = some v := by rw [cell_of_row _ _ _ _ _ _ hbk]; rfl
  have hlt : b < w1.heap.size := lt_of_heap hbk
  have hs1 : B ≤ w1.heap.size := by omega
  clear hz
  go_upto_region 2 with (fail)
  iterate 22 go_step
  refine wpList_append_own _ rfl (.tmp 11) (.tmp 13) 88 rfl B 5 i0 (.int .u8 0) 1 1 Tryz.underlying88 hi hz0 hz1 hz2 rfl (by decide) _ _ _ rfl (hown.alloc _) ⟨w1.heap.size, 0, none⟩ 1 1 [.int .u8 c.toNat] rfl rfl ?c1 ?c2 ?c3 ?c4 ?c5 ?_
  case c1 =>
    intro j u hj
    match j, hj with
    | 0, hj => simp at hj; subst hj; simp [Addr.add]
  case c2 => intro u hu; simp at hu; subst hu; rfl
  case c3 => unfold maxLen; omega
  case c4 => omega
  case c5 => simp; omega
  intro v' w2 hown' hgrow _
  have hne : v.ownBlock ≠ some b := by
    rcases hown.2 with ⟨rfl, _⟩ | ⟨g, cap, cur, rfl, e1, _⟩
    · intro e; cases e
    · intro e; simp [Value.ownBlock] at e; omega
  have hvB : ∀ k, v.ownBlock = some k → B ≤ k := by
    intro k hk
    rcases hown.2 with ⟨rfl, _⟩ | ⟨g, cap, cur, rfl, e1, _⟩
    · cases hk
    · simp [Value.ownBlock] at hk; omega
  have hb2 : w2.heap[b]? = some (.cells #[.pointer (some ⟨b, 0, none⟩), v] 108 (0, 0)) := by
    rw [hgrow.block b (by simp; omega) (fun e => hne e.symm)]
    exact ((Q.refl w1).alloc _).block hbk
  have d0 : w2.cell? ⟨b, 0, none⟩ = some (.pointer (some ⟨b, 0, none⟩)) := by rw [cell_of_row _ _ _ _ _ _ hb2]; rfl
  have d1 : w2.cell? ⟨b, 1, none⟩ = some v := by rw [cell_of_row _ _ _ _ _ _ hb2]; rfl
  have f1 : w2.frozen? ⟨b, 1, none⟩ = false := frozen_of_row w2 b 1 _ _ hb2
  obtain ⟨g, cap, rfl⟩ : ∃ g cap, v' = .slice (some ⟨g, 0, none⟩) (l.length + 1) cap := by
    rcases hown'.2 with ⟨_, h0⟩ | ⟨g, cap, cur, hv, _⟩
    · omega
    · exact ⟨g, cap, hv⟩
  go_wp2
  go_ret
  refine ⟨rfl, ⟨hbB, _, _, heap_setCell_any w2 b 1 _ _ _ _ hb2, .inr rfl, ?_⟩, ?_⟩
  · have := World.ownsRow.kept hown' (gb_set (b := w2) ⟨rfl, rfl, rfl, Nat.le_refl _, fun _ _ _ => rfl⟩ 1 (.slice (some ⟨g, 0, none⟩) (l.length + 1) cap)) (row := some b) (.inr fun e => ?_)
    · simpa [u8V] using this
    · rcases hown'.2 with ⟨h1, _⟩ | ⟨g2, cap2, cur2, h1, e1, _⟩
      · cases h1
      · rw [h1] at e; simp [Value.ownBlock] at e; omega
  · refine (KB.of_gb hg1 (fun k e => .inl (by cases e; rfl)) hs).trans ((KB.of_gb (World.grownBy_alloc w1 _ none) (fun k e => by cases e) (by omega)).trans ((KB.of_gb hgrow (fun k e => .inr (hvB k e)) (by simp; omega)).trans ?_))
    exact KB.of_gb (gb_set (b := w2) ⟨rfl, rfl, rfl, Nat.le_refl _, fun _ _ _ => rfl⟩ 1 _) (fun k e => .inl (by cases e; rfl)) (by have := hgrow.size; simp at this; omega)
set_option maxRecDepth 100000 in
set_option maxHeartbeats 4000000 in
theorem boStr (B b : Nat) (l : List UInt8) (s : List UInt8) (w : World) (h : BO B b l w) (hs : B ≤ w.heap.size) (hl : l.length + s.length ≤ 140737488355328) :
    Calls Tryz.prog 76 #[.pointer (some ⟨b, 0, none⟩), .string ⟨s.toArray⟩] w fun e w' => e = .returned (.tuple #[.int .i64 s.length, .nilIface]) ∧ BO B b (l ++ s) w' ∧ KB B b w w' := by
  obtain ⟨i0, hi, hz0, hz1, hz2⟩ := info_parts u8_info
  have hbB := h.1
  go_enter Tryz.func76, Tryz.ntmps76
  go_wp2_with fail
  refine (copyCheck_bo B b l w h).mono ?_
  rintro e w1 ⟨rfl, ⟨v, hbk, hown⟩, hg1, hz⟩
  clear h
  have c1 : w1.cell? ⟨b, 1, none⟩ = some v := by rw [cell_of_row _ _ _ _ _ _ hbk]; rfl
  have hlt : b < w1.heap.size := lt_of_heap hbk
  have hs1 : B ≤ w1.heap.size := by omega
  clear hz
  go_upto_region 2 with (fail)
  iterate 19 go_step
  refine Lib.wpList_append_own_string _ rfl (.tmp 12) (.tmp 13) 88 9 rfl B 5 i0 Tryz.underlying88 Tryz.underlying9 hi hz0 hz1 hz2 _ _ _ rfl hown ⟨s.toArray⟩ rfl ?c3 ?c4 hs1 ?_
  case c3 => show l.length + s.length ≤ maxLen; unfold maxLen; omega
  case c4 => show l.length + s.length ≤ _; omega
  intro v' w2 hown' hgrow _
  have hne : v.ownBlock ≠ some b := by
    rcases hown.2 with ⟨rfl, _⟩ | ⟨g, cap, cur, rfl, e1, _⟩
    · intro e; cases e
    · intro e; simp [Value.ownBlock] at e; omega
  have hvB : ∀ k, v.ownBlock = some k → B ≤ k := by
    intro k hk
    rcases hown.2 with ⟨rfl, _⟩ | ⟨g, cap, cur, rfl, e1, _⟩
    · cases hk
    · simp [Value.ownBlock] at hk; omega
  have hb2 : w2.heap[b]? = some (.cells #[.pointer (some ⟨b, 0, none⟩), v] 108 (0, 0)) := by
    rw [hgrow.block b hlt (fun e => hne e.symm)]
    exact hbk
  have d0 : w2.cell? ⟨b, 0, none⟩ = some (.pointer (some ⟨b, 0, none⟩)) := by rw [cell_of_row _ _ _ _ _ _ hb2]; rfl
  have d1 : w2.cell? ⟨b, 1, none⟩ = some v := by rw [cell_of_row _ _ _ _ _ _ hb2]; rfl
  have f1 : w2.frozen? ⟨b, 1, none⟩ = false := frozen_of_row w2 b 1 _ _ hb2
  have hone : ∃ A n c, v' = .slice A n c := by
    rcases hown'.2 with ⟨h1, _⟩ | ⟨g, cap, cur, h1, _⟩
    · exact ⟨_, _, _, h1⟩
    · exact ⟨_, _, _, h1⟩
  have hvo : v'.ownBlock ≠ some b := by
    rcases hown'.2 with ⟨rfl, _⟩ | ⟨g, cap, cur, rfl, e1, _⟩
    · intro e; cases e
    · intro e; simp [Value.ownBlock] at e; omega
  obtain ⟨A, n, cc, rfl⟩ := hone
  go_wp2
  go_ret2
  refine ⟨rfl, ⟨hbB, _, _, heap_setCell_any w2 b 1 _ _ _ _ hb2, .inr rfl, ?_⟩, ?_⟩
  · have := World.ownsRow.kept hown' (gb_set (b := w2) ⟨rfl, rfl, rfl, Nat.le_refl _, fun _ _ _ => rfl⟩ 1 (.slice A n cc)) (row := some b) (.inr hvo)
    have he : Lib.strCells ⟨s.toArray⟩ = s.map u8V := by rw [strCells_list]; rfl
    have hz : (ByteArray.mk s.toArray).size = s.length := rfl
    rw [he, hz] at this
    simpa using this
  · refine (KB.of_gb hg1 (fun k e => .inl (by cases e; rfl)) hs).trans ((KB.of_gb hgrow (fun k e => .inr (hvB k e)) hs1).trans ?_)
    exact KB.of_gb (gb_set (b := w2) ⟨rfl, rfl, rfl, Nat.le_refl _, fun _ _ _ => rfl⟩ 1 _) (fun k e => .inl (by cases e; rfl)) (by have := hgrow.size; omega)
end Go.Proofs.YtmmoenbmgcplkaaGreatDoor
/- Encode's closure; encode. -/
set_option linter.unusedVariables false
set_option linter.unusedSimpArgs false
namespace Go.Proofs.YtmmoenbmgcplkaaGreatDoor
open Go Go.RowKit
def signB (b : UInt8) : Bool := b == 45 || b == 46 || b == 95 || b == 126
def freeL (sl : Bool) (b : UInt8) : Bool := letterL b || signB b || (b == 47 && !sl)
theorem sign_index (b : UInt8) : decide (0 ≤ Lib.indexByte [45, 46, 95, 126] b) = signB b := by
  have h : ∀ n : Fin 256, decide (0 ≤ Lib.indexByte [45, 46, 95, 126] n.val.toUInt8) = signB n.val.toUInt8 := by decide +kernel
  have := h ⟨b.toNat, b.toNat_lt⟩
  simpa using this
set_option maxRecDepth 100000 in
set_option maxHeartbeats 4000000 in
theorem Encode1_any (b : UInt8) (k : Nat) (sl : Bool) (w : World) (hc : w.cell? ⟨k, 0, none⟩ = some (.bool sl)) :
    Calls Tryz.prog 113 #[.int .u8 b.toNat, .pointer (some ⟨k, 0, none⟩)] w fun e w' => e = .returned (.bool (freeL sl b)) ∧ w' = w := by
  have hb := b.toNat_lt
  have hi : Lib.indexByte [45, 46, 95, 126] ((b.toNat : Int).toNat.toUInt8) = Lib.indexByte [45, 46, 95, 126] b := by simp
  have hs := sign_index b
  obtain ⟨z, hz⟩ : ∃ z, Lib.indexByte [45, 46, 95, 126] b = z := ⟨_, rfl⟩
  rw [hz] at hi hs
  go_enter Tryz.func113, Tryz.ntmps113
  rcases hl : letterL b with _ | _
  · rcases hz0 : signB b with _ | _
    · have hz1 : decide (0 ≤ z) = false := by rw [hs, hz0]
      go_wp2_with fail
      refine (letter_any _ _).mono ?_
      rintro e w1 ⟨rfl, rfl⟩
      rw [hl]
      go_wp2_with fail
      refine (Tryz.strings_IndexByte ⟨#[45, 46, 95, 126]⟩ _ _).mono ?_
      rintro e w1 ⟨rfl, rfl⟩
      have hi' : Lib.indexByte (⟨#[45, 46, 95, 126]⟩ : ByteArray).data.toList ((b.toNat : Int).toNat.toUInt8) = z := hi
      rw [hi']
      go_wp2_with fail
      all_goals
        go_ret
        refine ⟨?_, rfl⟩
        show Ending.returned (.bool _) = .returned (.bool _)
        refine congrArg _ (congrArg _ ?_)
        first
          | (rename (b.toNat : Int) = 47 => h47
             have h : b = 47 := UInt8.toNat_inj.mp (by simpa using (by omega : b.toNat = 47))
             subst h
             simp [freeL, hl, hz0])
          | (rename ¬ (b.toNat : Int) = 47 => h47
             have h : (b == 47) = false := by simp; intro h; subst h; exact h47 rfl
             simp [freeL, hl, hz0, h])
          | simp [freeL, hl, hz0]
    · have hz1 : decide (0 ≤ z) = true := by rw [hs, hz0]
      go_wp2_with fail
      refine (letter_any _ _).mono ?_
      rintro e w1 ⟨rfl, rfl⟩
      rw [hl]
      go_wp2_with fail
      refine (Tryz.strings_IndexByte ⟨#[45, 46, 95, 126]⟩ _ _).mono ?_
      rintro e w1 ⟨rfl, rfl⟩
      have hi' : Lib.indexByte (⟨#[45, 46, 95, 126]⟩ : ByteArray).data.toList ((b.toNat : Int).toNat.toUInt8) = z := hi
      rw [hi']
      go_wp2_with fail
      all_goals
        go_ret
        refine ⟨?_, rfl⟩
        show Ending.returned (.bool _) = .returned (.bool _)
        refine congrArg _ (congrArg _ ?_)
        first
          | (rename (b.toNat : Int) = 47 => h47
             have h : b = 47 := UInt8.toNat_inj.mp (by simpa using (by omega : b.toNat = 47))
             subst h
             simp [freeL, hl, hz0])
          | (rename ¬ (b.toNat : Int) = 47 => h47
             have h : (b == 47) = false := by simp; intro h; subst h; exact h47 rfl
             simp [freeL, hl, hz0, h])
          | simp [freeL, hl, hz0]
  · have hz0 : True := trivial
    go_wp2_with fail
    refine (letter_any _ _).mono ?_
    rintro e w1 ⟨rfl, rfl⟩
    rw [hl]
    go_wp2_with fail
    all_goals
      go_ret
      refine ⟨?_, rfl⟩
      show Ending.returned (.bool _) = .returned (.bool _)
      refine congrArg _ (congrArg _ ?_)
      first
        | (rename (b.toNat : Int) = 47 => h47
           have h : b = 47 := UInt8.toNat_inj.mp (by simpa using (by omega : b.toNat = 47))
           subst h
           simp [freeL, hl, hz0])
        | (rename ¬ (b.toNat : Int) = 47 => h47
           have h : (b == 47) = false := by simp; intro h; subst h; exact h47 rfl
           simp [freeL, hl, hz0, h])
        | simp [freeL, hl, hz0]
end Go.Proofs.YtmmoenbmgcplkaaGreatDoor
/- uri.encode, Encode. -/
set_option linter.unusedVariables false
set_option linter.unusedSimpArgs false
namespace Go.Proofs.YtmmoenbmgcplkaaGreatDoor
open Go Go.RowKit
def capsL : List UInt8 := [48, 49, 50, 51, 52, 53, 54, 55, 56, 57, 65, 66, 67, 68, 69, 70]
def escL (b : UInt8) : List UInt8 := [37, gB capsL (b.toNat / 16), gB capsL (b.toNat % 16)]
def encB (sl : Bool) (b : UInt8) : List UInt8 := if freeL sl b then [b] else escL b
def encL (sl : Bool) (l : List UInt8) : List UInt8 := l.flatMap (encB sl)
theorem encB_le (sl : Bool) (b : UInt8) : (encB sl b).length ≤ 3 := by unfold encB escL; split <;> simp
theorem encL_le (sl : Bool) (l : List UInt8) : (encL sl l).length ≤ 3 * l.length := by
  unfold encL
  induction l with
  | nil => simp
  | cons a r ih => have := encB_le sl a; simp at *; omega
theorem encL_snoc (sl : Bool) (l : List UInt8) (b : UInt8) : encL sl (l ++ [b]) = encL sl l ++ encB sl b := by unfold encL; simp
theorem take_snocB (l : List UInt8) (k : Nat) (h : k < l.length) : l.take (k + 1) = l.take k ++ [gB l k] := by
  rw [List.take_add_one, List.getElem?_eq_getElem h]; simp [gB, List.getD, h]
theorem and15 : ∀ c : Nat, c < 256 → bits .and .u8 (c : Int) 15 = ((c % 16 : Nat) : Int) := by decide +kernel
theorem sub_caps (k : Nat) (h : k < 16) : sub [48, 49, 50, 51, 52, 53, 54, 55, 56, 57, 65, 66, 67, 68, 69, 70] k (k + 1) = [gB capsL k] := by
  have : ∀ x : Fin 16, sub [48, 49, 50, 51, 52, 53, 54, 55, 56, 57, 65, 66, 67, 68, 69, 70] x.val (x.val + 1) = [gB capsL x.val] := by decide +kernel
  exact this ⟨k, h⟩
set_option maxRecDepth 100000 in
set_option maxHeartbeats 400000 in
theorem encode_any (l : List UInt8) (k : Nat) (sl : Bool) (w : World) (hc : w.cell? ⟨k, 0, none⟩ = some (.bool sl)) (hl : l.length ≤ 100000000) :
    Calls Tryz.prog 112 #[.string ⟨l.toArray⟩, .func (.func 113) #[] #[.pointer (some ⟨k, 0, none⟩)]] w fun e w' => e = .returned (.string ⟨(encL sl l).toArray⟩) ∧ Q w w' := by
  have hk := lt_of_cell hc
  obtain ⟨v, w1, hcv, hown, hq1, cap, hv⟩ := bytes_of l (w.alloc (.cells #[.pointer none, .slice none 0 0] 108)) (by omega)
  rw [hv] at hcv hown
  have hb : w1.heap[w.heap.size]? = some (.cells #[.pointer none, .slice none 0 0] 108 (0, 0)) := hq1.block (heap_alloc_new w _)
  have hs0 : (w.alloc (.cells #[.pointer none, .slice none 0 0] 108)).heap.size = w.heap.size + 1 := by simp
  rw [hs0] at hcv hown
  have hsz1 : w.heap.size + 1 < w1.heap.size := by
    rcases hown with ⟨h, _⟩ | ⟨g, cap, cur, fz, h, _, h3, _⟩
    · cases h
    · injection h with h _ _; injection h with h; injection h with h; subst h; exact lt_of_heap h3
  have HBO := Lib.hid (BO.new w1 w1 w.heap.size w1.heap.size hb (by omega))
  have HQA := Lib.hid (((Q.refl w).alloc (.cells #[.pointer none, .slice none 0 0] 108)).trans hq1)
  have HOW := Lib.hid hown
  clear hown hq1 hb hv
  go_enter Tryz.func112, Tryz.ntmps112
  go_wp2_with fail
  clear hcv hs0
  go_loopw [11] (fun i wr => ∃ j : Nat, j ≤ l.length ∧ i = .int .i64 j ∧ BO w1.heap.size w.heap.size (encL sl (l.take j)) wr ∧ KB w1.heap.size w.heap.size w1 wr) (fun i _ => l.length - (intOf i).toNat)
  case atStart => exact ⟨0, by omega, rfl, HBO.out, KB.refl _ _ _⟩
  case round =>
    obtain ⟨j, hj, rfl, hB, hkb⟩ := hrel
    by_cases hlt : j < l.length
    · have hd : decide (j < l.length) = true := by simpa using hlt
      obtain ⟨g, cc, hv, _, _, _, hcell⟩ := HOW.out.pos (by omega)
      cases hv
      have cx := hkb.cell (by simp; omega) (by simp) (hcell j hlt).1
      have ck := hkb.cell (by simp; omega) (by simp; omega) (HQA.out.cell hc)
      have HT : Hid (encL sl (l.take (j + 1)) = encL sl (l.take j) ++ encB sl (gB l j)) := by rw [take_snocB l j hlt]; exact encL_snoc _ _ _
      have HE := Lib.hid (encL_le sl (l.take j))
      have HBJ := Lib.hid hB
      have HKB := Lib.hid hkb
      clear hB hkb hcell
      obtain ⟨b, hgb⟩ : ∃ b, gB l j = b := ⟨_, rfl⟩
      rw [hgb] at cx HT
      have hlt2 := Nat.lt_of_lt_of_le hsz1 HKB.out.size
      go_wp2_with fail
      refine (Encode1_any _ _ _ _ ck).mono ?_
      rintro e wx ⟨rfl, rfl⟩
      rcases hf : freeL sl b with _ | _
      · go_wp2_with fail
        clear cx ck
        obtain ⟨hi, hhi⟩ : ∃ hi : Nat, b.toNat / 16 = hi := ⟨_, rfl⟩
        obtain ⟨lo, hlo⟩ : ∃ lo : Nat, b.toNat % 16 = lo := ⟨_, rfl⟩
        have hb8 := b.toNat_lt
        have hi16 : hi < 16 := by omega
        have lo16 : lo < 16 := by omega
        have he1 : ((b.toNat : Int)) / 16 = (hi : Int) := by omega
        have he2 : bits .and .u8 (b.toNat : Int) 15 = (lo : Int) := by rw [and15 b.toNat (by omega), hlo]
        have hw1 : IntKind.u8.wrap ((hi : Int) + 1) = (hi : Int) + 1 := by rw [IntKind.wrap_u8]; omega
        have hw2 : IntKind.u8.wrap ((lo : Int) + 1) = (lo : Int) + 1 := by rw [IntKind.wrap_u8]; omega
        have hg1 : (hi : Int) + 1 ≤ 16 := by omega
        have hg2 : (lo : Int) + 1 ≤ 16 := by omega
        have hs1 := sub_caps hi hi16
        have hs2 := sub_caps lo lo16
        have HES : Hid (escL b = [37, gB capsL hi, gB capsL lo]) := by unfold escL; rw [hhi, hlo]; exact rfl
        clear hhi hlo hb8
        go_region_with (go_at_call 76; refine (boStr _ _ _ [37, gB capsL hi, gB capsL lo] _ (HBJ.out.q (Q.refl _).drew) HKB.out.size (by have := HE.out; simp at this; simp; omega)).mono ?_; rintro e w3 ⟨rfl, hB3, hk3⟩)
        all_goals
          have HB3 := Lib.hid hB3
          have HK3 := Lib.hid ((HKB.out.trans (KB.q (Q.refl _).drew HKB.out.size)).trans hk3)
          clear hB3 hk3
          go_wp2_with fail
          refine ⟨⟨j + 1, by omega, by go_num, by rw [HT.out]; unfold encB; rw [hf, ← HES.out] at *; exact HB3.out, HK3.out⟩, by simp [intOf]; omega⟩
      · go_wp2_with fail
        refine (boByte _ _ _ _ _ HBJ.out HKB.out.size (by have := HE.out; simp at this; omega)).mono ?_
        rintro e w3 ⟨rfl, hB3, hk3⟩
        have HB3 := Lib.hid hB3
        have HK3 := Lib.hid (HKB.out.trans hk3)
        clear hB3 hk3 cx ck
        go_wp2_with fail
        go_roundw
        case rel => exact ⟨j + 1, by omega, by go_num, by rw [HT.out]; unfold encB; rw [hf]; exact HB3.out, HK3.out⟩
        case measure => simp [intOf]; omega
    · obtain rfl : j = l.length := by omega
      go_wp2_with fail
      refine (bldString _ _ _ (hB.bld (w0 := w) (Nat.le_refl _)) (by have := hkb.size; omega)).mono ?_
      rintro e w6 ⟨rfl, hb6⟩
      go_wp2_with fail
      go_ret
      refine ⟨by simp, ?_⟩
      exact (KB.toQ hkb HQA.out (Nat.le_refl _) (by omega)).below hb6
theorem Encode_any (l : List UInt8) (sl : Bool) (w : World) (hl : l.length ≤ 100000000) :
    Calls Tryz.prog 69 #[.string ⟨l.toArray⟩, .bool sl] w fun e w' => e = .returned (.string ⟨(encL sl l).toArray⟩) ∧ Q w w' := by
  go_enter Tryz.func69, Tryz.ntmps69
  go_wp2_with fail
  refine (encode_any l w.heap.size sl _ (by rw [cell_of_row _ _ _ _ _ _ (heap_alloc_new w _)]; rfl) hl).mono ?_
  rintro e w1 ⟨rfl, hq⟩
  go_wp2_with fail
  go_ret
  exact ⟨rfl, ((Q.refl w).alloc _).trans hq⟩
end Go.Proofs.YtmmoenbmgcplkaaGreatDoor
/- A region that draws its order: operations that read no memory may be taken first; what is left has a forced order. -/
set_option linter.unusedVariables false
namespace Go.Proofs.YtmmoenbmgcplkaaGreatDoor
open Go Go.RowKit
def pureOp : Op → Bool
  | .move _ | .assign _ | .nilCheck _ | .pick .. | .build .. | .load .. | .binOp .. | .unOp .. | .convert .. | .slice .. | .fieldAddr .. | .field .. | .indexAddr .. | .index .. | .extract .. => true
  | .call c => (match c.callee with | .builtin .len => true | _ => false)
  | _ => false
theorem pure_run {P : Program} {ρ : Operand → Value} {o : Oper} {w w' : World} {n : Next} (hp : pureOp o.op = true) (h : (execOp ρ o).run P w = .ok n w') : ∃ v, n = .value v := by
  have key : ∀ s : Sem Value, (do pure (Next.value (← s)) : Sem Next).run P w = .ok n w' → ∃ v, n = .value v := by
    intro s hs
    simp only [Sem.run_bind, Sem.run_pure] at hs
    cases hq : s.run P w with
    | ok x u => rw [hq] at hs; simp [Result.andThen] at hs; exact ⟨x, hs.1.symm⟩
    | halt x u => rw [hq] at hs; simp [Result.andThen] at hs
  obtain ⟨dst, op, type, pos, after, guard⟩ := o
  cases op <;> simp only [pureOp, Bool.false_eq_true] at hp <;> unfold execOp at h <;> simp only at h
  case move x => simp only [Sem.run_pure] at h; cases h; exact ⟨_, rfl⟩
  case assign x => simp only [Sem.run_pure] at h; cases h; exact ⟨_, rfl⟩
  case pick c a b =>
    simp only [Sem.run_bind, Sem.run_pure] at h
    cases hq : (asBool (ρ c)).run P w with
    | ok x u => rw [hq] at h; simp [Result.andThen] at h; exact ⟨_, h.1.symm⟩
    | halt x u => rw [hq] at h; simp [Result.andThen] at h
  case call c =>
    obtain ⟨ce, ar, ts⟩ := c
    cases ce with
    | builtin b =>
      cases b <;> simp only [Bool.false_eq_true] at hp
      simp only [resolve, invoke, Sem.run_bind, Sem.run_pure, Result.andThen, builtin] at h
      cases hq : (Builtin.len_ ts type (Array.map ρ ar)).run P w with
      | ok x u => rw [hq] at h; simp at h; exact ⟨_, h.1.symm⟩
      | halt x u => rw [hq] at h; simp at h
    | invoke x y => simp only [Bool.false_eq_true] at hp
    | value x => simp only [Bool.false_eq_true] at hp
  case nilCheck x =>
    have kb : ∀ {α : Type} (s : Sem α) (f : α → Sem Next) (w : World), (∀ a w1, (f a).run P w1 = .ok n w' → ∃ v, n = .value v) → (s >>= f).run P w = .ok n w' → ∃ v, n = .value v := fun s f w hf h => by
      rw [Sem.run_bind] at h
      cases hq : s.run P w with
      | ok a w1 => rw [hq] at h; exact hf a w1 h
      | halt y w1 => rw [hq] at h; cases h
    have kp : ∀ (v : Value) (w : World), (pure (Next.value v) : Sem Next).run P w = .ok n w' → ∃ v, n = .value v := fun v w h => by
      simp only [Sem.run_pure] at h; cases h; exact ⟨_, rfl⟩
    have kn : (runtimePanic .nilDeref : Sem Next).run P w = .ok n w' → ∃ v, n = .value v := fun h => by
      unfold runtimePanic at h
      refine kb _ _ _ (fun a w1 h => ?_) h
      simp [goPanic] at h
    split at h
    · exact kn h
    · exact kn h
    · exact kn h
    · split at h
      · exact kn h
      · refine kb _ _ _ (fun a w1 h => kb _ _ _ (fun b w2 h => ?_) h) h
        split at h
        · exact kb _ _ _ (fun _ w3 h => kp _ _ h) h
        · exact kp _ _ h
      · exact kp _ _ h
    · exact kp _ _ h
  all_goals exact key _ h
def pureB (md : Region.Mode) (ops : Array Oper) : List Nat → Array Bool → Bool
  | [], _ => true
  | k :: r, ls => (match ops[k]? with | some o => pureOp o.op | none => false) && Region.free md ops ls k && (Region.ready md ops ls).contains k && pureB md ops r (ls.setIfInBounds k true)
def markB : List Nat → Array Bool → Array Bool
  | [], ls => ls
  | k :: r, ls => markB r (ls.setIfInBounds k true)
def tailB (md : Region.Mode) (ops : Array Oper) : List Nat → Array Bool → Bool
  | [], ls => (Region.ready md ops ls).isEmpty
  | k :: r, ls => decide (Region.ready md ops ls = [k]) && (ops[k]?).isSome && tailB md ops r (ls.setIfInBounds k true)
section
variable {P : Program} {ops : Array Oper} {R : Exit → Act → World → Prop}
theorem wpQuiet_mono {C : World → Prop} {K K' : Act → Prop} (hk : ∀ a, K a → K' a) (l : List Oper) : ∀ a, wpQuiet P ops C K l a → wpQuiet P ops C K' l a := by
  induction l with
  | nil => intro a h; exact hk a h
  | cons o r ih =>
    intro a h
    unfold wpQuiet at h ⊢
    split
    · next hw => rw [if_pos hw] at h; exact Oper.quiet_mono ih h
    · next hw => rw [if_neg hw] at h; exact ih _ h
theorem any_tail (tl : List Nat) : ∀ (ls : Array Bool) (a : Act) (w : World), tailB .any ops tl ls = true → wpList P ops R (tl.map (ops.getD · default)) a w → wpAnyH P .any ops R (fun _ => True) tl.length ls a w := by
  induction tl with
  | nil => intro ls a w hB h; exact ⟨by simpa [tailB] using hB, h⟩
  | cons k r ih =>
    intro ls a w hB h
    simp only [tailB, Bool.and_eq_true, decide_eq_true_eq] at hB
    refine wpAnyH_all hB.1.1 (by simp) fun i hi => ?_
    have e : i = k := by simpa using hi
    subst e
    obtain ⟨o, ho⟩ := Option.isSome_iff_exists.1 hB.1.2
    have hk : ops.getD i default = o := by simp [Array.getD_eq_getD_getElem?, ho]
    rw [List.map_cons, hk] at h
    have hw : wpOp P ops R i (wpList P ops R (r.map (ops.getD · default))) a w := by unfold wpOp; simp only [ho]; exact h
    exact wpOp_mono (fun a' w' h' => ⟨trivial, ih _ a' w' hB.2 h'⟩) hw
theorem any_head (hsel : Region.noSelect ops = true) (hQ : ∀ c a d v w, R (.panic c) (Act.put a d v) w → R (.panic c) a w) (f : Nat) (w : World) (hd : List Nat) : ∀ (ls : Array Bool) (a : Act), pureB .any ops hd ls = true →
    wpQuiet P ops (fun _ => True) (fun a' => wpAnyH P .any ops R (fun _ => True) f (markB hd ls) a' w) (hd.map (ops.getD · default)) a → wpAnyH P .any ops R (fun _ => True) (hd.length + f) ls a w := by
  induction hd with
  | nil => intro ls a hB h; rw [List.length_nil, Nat.zero_add]; exact h
  | cons k r ih =>
    intro ls a hB h
    simp only [pureB, Bool.and_eq_true] at hB
    cases ho : ops[k]? with
    | none => rw [ho] at hB; simp at hB
    | some o =>
      rw [ho] at hB
      have hk : ops.getD k default = o := by simp [Array.getD_eq_getD_getElem?, ho]
      rw [List.map_cons, hk] at h
      have h2 : if Region.wanted o (yielded ops a.tmps) then o.quiet P a (fun _ => True) (wpQuiet P ops (fun _ => True) (fun a' => wpAnyH P .any ops R (fun _ => True) f (markB (k :: r) ls) a' w) (r.map (ops.getD · default)))
        else wpQuiet P ops (fun _ => True) (fun a' => wpAnyH P .any ops R (fun _ => True) f (markB (k :: r) ls) a' w) (r.map (ops.getD · default)) (a.put o.dst undef) := h
      rw [List.length_cons, Nat.add_right_comm]
      split at h2
      · next hw =>
        obtain ⟨v, hv, hn⟩ := h2
        refine wpAnyH_take ho hsel hB.1.1.2 hB.1.2 (fun c a w => hQ c a _ _ w) (.inl ⟨hw, fun w' _ => ?_⟩) trivial (ih _ _ hB.2 hn)
        have h3 := hv w' trivial
        unfold Oper.quietAt at h3
        cases hr : (execOp a.eval o).run P w' with
        | halt x u => rw [hr] at h3; simp only [Oper.quietUpon] at h3
        | ok n u =>
          obtain ⟨x, rfl⟩ := pure_run hB.1.1.1 hr
          rw [hr] at h3
          simp only [Oper.quietUpon] at h3
          rw [h3.1, h3.2]
      · next hw =>
        exact wpAnyH_take ho hsel hB.1.1.2 hB.1.2 (fun c a w => hQ c a _ _ w) (.inr ⟨by simpa using hw, rfl⟩) trivial (ih _ _ hB.2 h2)
end
/-- Those of 'hd' are taken first, in that order; those of 'tl' come behind them, in that order. -/
theorem wp_region_pure {P : Program} {id : Nat} {R : Exit → Act → World → Prop} {a : Act} {w : World} {l : List Oper} (hd tl : List Nat) (hm : P.follows .mixedOrders = true)
    (hB : (Region.noSelect l.toArray && pureB .any l.toArray hd (Array.replicate l.length false) && tailB .any l.toArray tl (markB hd (Array.replicate l.length false)) && decide (hd.length + tl.length = l.length)) = true)
    (hQ : ∀ c a d v w, R (.panic c) (Act.put a d v) w → R (.panic c) a w)
    (h : wpQuiet P l.toArray (fun _ => True) (fun a' => wpList P l.toArray R (tl.map (l.toArray.getD · default)) a' w.drew) (hd.map (l.toArray.getD · default)) a) : (Code.region id l.toArray true).wp P R a w := by
  simp only [Bool.and_eq_true, decide_eq_true_eq] at hB
  obtain ⟨⟨⟨h1, h2⟩, h3⟩, h4⟩ := hB
  refine wp_region_held (S := fun _ => True) hm ?_
  have e : l.toArray.size = hd.length + tl.length := by simp [h4]
  rw [e]
  have e2 : Array.replicate (hd.length + tl.length) false = Array.replicate l.length false := by rw [h4]
  rw [e2]
  refine any_head h1 hQ tl.length _ hd _ a h2 ?_
  exact wpQuiet_mono (fun a' h' => any_tail tl _ a' _ h3 h') _ _ h
end Go.Proofs.YtmmoenbmgcplkaaGreatDoor
/- A region that draws its order: reads and calls that may lay new memory ahead, then a tail in a forced order that writes. -/
set_option linter.unusedVariables false
namespace Go.Proofs.YtmmoenbmgcplkaaGreatDoor
open Go Go.RowKit

section
variable {P : Program} {ops : Array Oper} {md : Region.Mode} {C : World → Prop}
/-- Whatever order is picked among the first n operations. -/
def headQ (P : Program) (md : Region.Mode) (ops : Array Oper) (C : World → Prop) (n : Nat) (L : Array Bool → Act → Prop) : Nat → Array Bool → Act → Prop
  | 0, ls, a => L ls a
  | f + 1, ls, a => Region.ready md ops ls ≠ [] ∧ ∀ i ∈ Region.ready md ops ls, i < n ∧ qOp P ops C i (headQ P md ops C n L f (ls.setIfInBounds i true)) a
theorem any_of_headQ {n g : Nat} {L : Array Bool → Act → Prop} {R : Exit → Act → World → Prop} (hL : ∀ ls a w, C w → L ls a → wpAny P md ops R g ls a w) (f : Nat) :
    ∀ (ls : Array Bool) (a : Act) (w : World), C w → headQ P md ops C n L f ls a → wpAny P md ops R (f + g) ls a w := by
  induction f with
  | zero => intro ls a w hw h; rw [Nat.zero_add]; exact hL _ _ _ hw h
  | succ f ih =>
    intro ls a w hw h
    rw [Nat.add_right_comm]
    exact ⟨fun h0 => (h.1 h0).elim, fun i hi => wpOp_of_qOp hw (fun a' w' hw' hk => ih _ a' w' hw' hk) (h.2 i hi).2⟩
/-- One that may come up now may be taken first. -/
theorem headQ_first {n i : Nat} {oi : Oper} {v : Value} {L : Array Bool → Act → Prop} (hi : ops[i]? = some oi) (hsel : ∀ (j : Nat) (o : Oper) cs b, ops[j]? = some o → o.op ≠ .select cs b)
    (hs : Region.sinkB md ops n = true) (hc : Region.chainB md ops n = true) (hn : n < ops.size) (hin : i < n) (hdone : ∀ ls a, L ls a → ∀ j ∈ Region.ready md ops ls, n ≤ j) (f : Nat) :
    ∀ (ls : Array Bool) (a : Act), HeadInv md ops n ls →
      (∀ j oj, ops[j]? = some oj → j ≠ i → ls.getD j true = false → (∀ e ∈ oj.after, Region.binds md e = true → e.on ≠ i) → oi.apart ops oj = true) →
      i ∈ Region.ready md ops ls → YieldsIn P ops C oi v a → headQ P md ops C n L f (ls.setIfInBounds i true) (a.put oi.dst v) → headQ P md ops C n L (f + 1) ls a := by
  induction f with
  | zero =>
    intro ls a inv _ hr hy H
    have hun := (mem_ready.1 hr).1
    refine ⟨List.ne_nil_of_mem hr, fun j hj => ?_⟩
    have hjn : j < n := Nat.lt_of_not_le fun h => tail_waits hs hc hn inv _ i rfl hin hun j h hj
    by_cases e : j = i
    · rw [e] at hjn ⊢; exact ⟨hjn, hy.qOp hi H⟩
    · exact absurd (hdone _ _ H j (ready_mono hj e)) (Nat.not_le.2 hjn)
  | succ f ih =>
    intro ls a inv hfree hr hy H
    have hun := (mem_ready.1 hr).1
    refine ⟨List.ne_nil_of_mem hr, fun j hj => ?_⟩
    have hjn : j < n := Nat.lt_of_not_le fun h => tail_waits hs hc hn inv _ i rfl hin hun j h hj
    by_cases e : j = i
    · rw [e] at hjn ⊢; exact ⟨hjn, hy.qOp hi H⟩
    · refine ⟨hjn, ?_⟩
      obtain ⟨hjun, oj, hoj, hall⟩ := mem_ready.1 hj
      have hno : ∀ x ∈ oj.after, Region.binds md x = true → x.on ≠ i := by
        intro x hx hb he
        have := hall x hx hb
        rw [he, getD_both hun] at this
        cases this
      have h2 := qOp_put hoj (hfree j oj hoj e hjun hno) (fun cs b => hsel i oi cs b hi) (fun cs b => hsel j oj cs b hoj) hy (H.2 j (ready_mono hj e)).2
      refine qOp_mono (fun a' h3 => ih _ a' (inv.set hj hjn) (fun k ok hk hki hku hkn => hfree k ok hk hki ?_ hkn) (ready_mono hr (Ne.symm e)) h3.1 (by rw [Array.setIfInBounds_comm _ _ e]; exact h3.2)) h2
      by_cases hjk : j = k
      · rw [← hjk]; exact hjun
      · rwa [getD_set_ne true hjk] at hku
theorem headQ_lex {n g : Nat} {K : Act → Prop} (hsel : Region.noSelect ops = true) (hs : Region.sinkB md ops n = true) (hc : Region.chainB md ops n = true) (hn : n < ops.size) (l : List Oper) :
    ∀ (k : Nat) (ls : Array Bool) (a : Act), (∀ j, j < l.length → l[j]? = ops[k + j]?) → k + l.length = n → HeadInv md ops n ls →
    Region.lexHead md ops g l.length k ls = true → wpQuiet P ops C K l a → headQ P md ops C n (fun ls' a' => Region.seqB md ops g n ls' = true ∧ K a') l.length ls a := by
  induction l with
  | nil =>
    intro k ls a _ hk _ hB h
    have e : k = n := by simpa using hk
    exact ⟨by rw [← e]; simpa [Region.lexHead] using hB, h⟩
  | cons o l ih =>
    intro k ls a hl hk inv hB h
    have h0 : ops[k]? = some o := by simpa using (hl 0 (by simp)).symm
    simp only [List.length_cons, Region.lexHead, Bool.and_eq_true] at hB hk
    have hkn : k < n := by omega
    have hr : k ∈ Region.ready md ops ls := by simpa using hB.1.1
    have hq : qOp P ops C k (wpQuiet P ops C K l) a := by unfold qOp; simp only [h0]; exact h
    obtain ⟨v, hy, hK⟩ := yieldsIn_of_qOp h0 hq
    refine headQ_first h0 (Region.noSelect_spec hsel) hs hc hn hkn (fun ls' a' hL => seqB_ready hL.1) l.length ls a inv (Region.free_spec h0 hB.1.2) hr hy ?_
    refine ih (k + 1) _ _ (fun j hj => ?_) (by omega) (inv.set hr hkn) hB.2 hK
    have := hl (j + 1) (by simp; omega)
    simpa [Nat.add_assoc, Nat.add_comm 1 j] using this
theorem wp_region_quiet_tail {id : Nat} {R : Exit → Act → World → Prop} {a : Act} {w : World} {l : List Oper} (n : Nat) (hm : P.follows .mixedOrders = true) (hB : Region.lexTailB .any l.toArray n = true)
    (hC : C { w with drawn := w.drawn + 1 }) (h : wpQuiet P l.toArray C (fun a' => ∀ w', C w' → wpList P l.toArray R (l.drop n) a' w') (l.take n) a) : (Code.region id l.toArray true).wp P R a w := by
  simp only [Region.lexTailB, Bool.and_eq_true, decide_eq_true_eq] at hB
  have hn : n < l.length := by simpa using hB.1.1.1.2
  have htl : (l.take n).length = n := by simp; omega
  have hdl : (l.drop n).length = l.toArray.size - n := by simp
  have inv0 : HeadInv .any l.toArray n (Array.replicate l.toArray.size false) :=
    ⟨by simp, fun j oj _ hl => (by rw [getD_replicate_false] at hl; cases hl), fun t _ ht => getD_in (by simpa using ht) (getD_replicate_false _ _)⟩
  have H := headQ_lex (md := .any) (C := C) (g := l.toArray.size - n) hB.1.1.1.1 hB.1.1.2 hB.1.2 hB.1.1.1.2 (l.take n) 0 _ a (fun j hj => by rw [htl] at hj; simp [hj]) (by simpa using htl) inv0 (by rw [htl]; exact hB.2) h
  refine wp_region_any hm ?_
  have := any_of_headQ (C := C) (R := R) (g := l.toArray.size - n) (fun ls a' w' hw' hL => by
    have h1 := wpAny_of_seq (md := .any) (Q' := R) (l.drop n) n ls a' w' (fun j => by simp [List.getElem?_drop]) (by rw [hdl]; exact hL.1) (hL.2 w' hw')
    rwa [hdl] at h1) _ _ _ _ hC H
  have hsz : n + (l.toArray.size - n) = l.toArray.size := by
    have : l.toArray.size = l.length := by simp
    omega
  rwa [htl, hsz] at this
end
/-- The head may lay new memory; behind it the world is one that w grew to. -/
theorem wp_region_q_tail {P : Program} {id : Nat} {R : Exit → Act → World → Prop} {a : Act} {w : World} {l : List Oper} (n : Nat) (hm : P.follows .mixedOrders = true) (hB : Region.lexTailB .any l.toArray n = true)
    (h : wpQuiet P l.toArray (fun w' => ∃ m : QW w, w' = m.val) (fun a' => ∀ w', (∃ m : QW w, w' = m.val) → wpList P l.toArray R (l.drop n) a' w') (l.take n) a) : (Code.region id l.toArray true).wp P R a w :=
  wp_region_quiet_tail (C := fun w' => ∃ m : QW w, w' = m.val) n hm hB ⟨⟨w.drew, (Q.refl w).drew⟩, rfl⟩ h
end Go.Proofs.YtmmoenbmgcplkaaGreatDoor
/- A region that draws its order: operations that read no memory first, then calls that may lay new memory, then a rest in a forced order. -/
set_option linter.unusedVariables false
namespace Go.Proofs.YtmmoenbmgcplkaaGreatDoor
open Go Go.RowKit
section
variable {P : Program} {ops : Array Oper} {R : Exit → Act → World → Prop} {C : World → Prop}
theorem held_of_any {md : Region.Mode} (f : Nat) : ∀ (ls : Array Bool) (a : Act) (w : World), wpAny P md ops R f ls a w → wpAnyH P md ops R (fun _ => True) f ls a w := by
  induction f with
  | zero => intro ls a w h; exact h
  | succ f ih => intro ls a w h; exact ⟨h.1, fun i hi => wpOp_mono (fun a' w' h' => ⟨trivial, ih _ a' w' h'⟩) (h.2 i hi)⟩
/-- Whatever order is picked among those of H. -/
def mixQ (P : Program) (ops : Array Oper) (C : World → Prop) (H : Nat → Prop) (L : Array Bool → Act → Prop) : Nat → Array Bool → Act → Prop
  | 0, ls, a => L ls a
  | f + 1, ls, a => Region.ready .any ops ls ≠ [] ∧ ∀ i ∈ Region.ready .any ops ls, H i ∧ qOp P ops C i (mixQ P ops C H L f (ls.setIfInBounds i true)) a
theorem any_of_mixQ {H : Nat → Prop} {g : Nat} {L : Array Bool → Act → Prop} (hL : ∀ ls a w, C w → L ls a → wpAny P .any ops R g ls a w) (f : Nat) :
    ∀ (ls : Array Bool) (a : Act) (w : World), C w → mixQ P ops C H L f ls a → wpAny P .any ops R (f + g) ls a w := by
  induction f with
  | zero => intro ls a w hw h; rw [Nat.zero_add]; exact hL _ _ _ hw h
  | succ f ih =>
    intro ls a w hw h
    rw [Nat.add_right_comm]
    exact ⟨fun h0 => (h.1 h0).elim, fun i hi => wpOp_of_qOp hw (fun a' w' hw' hk => ih _ a' w' hw' hk) (h.2 i hi).2⟩
/-- What has come up so far: those of ls1, and some of H, each behind those that it waits for. -/
structure MixInv (ops : Array Oper) (ls1 : Array Bool) (H : Nat → Prop) (ls : Array Bool) : Prop where
  size : ls.size = ops.size
  closed : ∀ j oj, ops[j]? = some oj → ls.getD j false = true → ∀ e ∈ oj.after, Region.binds .any e = true → ls.getD e.on false = true
  rest : ∀ t, ¬ H t → ls1.getD t true = false → ls.getD t true = false
  more : ∀ t, ls1.getD t true = true → ls.getD t true = true
theorem MixInv.set {ls1 : Array Bool} {H : Nat → Prop} {i : Nat} {ls : Array Bool} (inv : MixInv ops ls1 H ls) (hi : i ∈ Region.ready .any ops ls) (hin : H i) : MixInv ops ls1 H (ls.setIfInBounds i true) := by
  obtain ⟨_, oi, hoi, hall⟩ := mem_ready.1 hi
  refine ⟨by simp [inv.size], fun j oj hj hl e he hb => ?_, fun t ht ht' => ?_, fun t ht => ?_⟩
  · by_cases hij : i = j
    · subst hij
      have : oj = oi := Option.some.inj (hj.symm.trans hoi)
      subst this
      exact getD_set_true (hall e he hb)
    · rw [getD_set_ne false hij] at hl
      exact getD_set_true (inv.closed j oj hj hl e he hb)
  · have : i ≠ t := fun h => ht (h ▸ hin)
    rw [getD_set_ne true this]; exact inv.rest t ht ht'
  · by_cases hij : i = t
    · subst hij
      by_cases hs : i < ls.size
      · simp [hs]
      · simp [hs]
    · rw [getD_set_ne true hij]; exact inv.more t ht
/-- Each of qs is waited for by a later one of qs, or by the first of tl; each of tl by the next. -/
def sinkL (ops : Array Oper) (qs : List Nat) (t0 : Nat) : Bool := qs.all fun i => (t0 :: qs).any fun j => decide (i < j) && Region.waitsFor .any ops j i
def chainL (ops : Array Oper) : List Nat → Bool
  | a :: b :: r => Region.waitsFor .any ops b a && chainL ops (b :: r)
  | _ => true
theorem chainL_prev {tl : List Nat} (h : chainL ops tl = true) : ∀ t ∈ tl.tail, ∃ s ∈ tl, Region.waitsFor .any ops t s = true := by
  induction tl with
  | nil => intro t ht; cases ht
  | cons a r ih =>
    cases r with
    | nil => intro t ht; cases ht
    | cons b r =>
      simp only [chainL, Bool.and_eq_true] at h
      intro t ht
      rcases List.mem_cons.1 ht with e | e
      · subst e; exact ⟨a, by simp, h.1⟩
      · obtain ⟨s, hs, hs2⟩ := ih h.2 t e
        exact ⟨s, List.mem_cons_of_mem _ hs, hs2⟩
theorem mix_waits {ls1 ls : Array Bool} {qs : List Nat} {t0 : Nat} {tr : List Nat} {N : Nat} (hN : ∀ i ∈ t0 :: qs, i < N) (hs : sinkL ops qs t0 = true) (hc : chainL ops (t0 :: tr) = true) (hT : ∀ t ∈ t0 :: tr, t ∉ qs ∧ ls1.getD t true = false) (hsz : ∀ i ∈ t0 :: qs, i < ops.size)
    (inv : MixInv ops ls1 (· ∈ qs) ls) : ∀ (d i : Nat), N - i = d → i ∈ qs → ls.getD i true = false → ∀ t ∈ t0 :: tr, t ∉ Region.ready .any ops ls := by
  intro d
  induction d using Nat.strongRecOn with
  | _ d ih =>
    intro i hd hi hun t ht hr
    obtain ⟨_, ot, hot, hall⟩ := mem_ready.1 hr
    rcases List.mem_cons.1 ht with e | e
    · subst e
      have h1 := List.all_eq_true.1 hs i hi
      obtain ⟨j, hj, hj2⟩ := List.any_eq_true.1 h1
      simp only [Bool.and_eq_true, decide_eq_true_eq] at hj2
      obtain ⟨oj, hoj, e, he, hb, hon⟩ := Region.waitsFor_spec hj2.2
      rcases List.mem_cons.1 hj with hjt | hjt
      · subst hjt
        have : oj = ot := Option.some.inj (hoj.symm.trans hot)
        subst this
        have h2 := hall e he hb
        rw [hon, getD_both hun] at h2
        cases h2
      · have hjN := hN j (List.mem_cons_of_mem _ hjt)
        cases hl : ls.getD j false with
        | true =>
          have h2 := inv.closed j oj hoj hl e he hb
          rw [hon, getD_both hun] at h2
          cases h2
        | false =>
          have hjs : j < ls.size := by rw [inv.size]; exact hsz j (List.mem_cons_of_mem _ hjt)
          exact ih (N - j) (by omega) j rfl hjt (getD_in hjs hl) t ht hr
    · obtain ⟨s, hs1, hs2⟩ := chainL_prev hc t (by simpa using e)
      obtain ⟨o', ho', e', he, hb, hon⟩ := Region.waitsFor_spec hs2
      have : o' = ot := Option.some.inj (ho'.symm.trans hot)
      subst this
      have h2 := hall e' he hb
      have h3 := hT s hs1
      rw [hon, getD_both (inv.rest s h3.1 h3.2)] at h2
      cases h2
/-- One that may come up now may be taken first. -/
theorem mixQ_first {ls1 : Array Bool} {H : Nat → Prop} {i : Nat} {oi : Oper} {v : Value} {L : Array Bool → Act → Prop} (hi : ops[i]? = some oi) (hsel : ∀ (j : Nat) (o : Oper) cs b, ops[j]? = some o → o.op ≠ .select cs b)
    (hwait : ∀ ls, MixInv ops ls1 H ls → ∀ i, H i → ls.getD i true = false → ∀ t, t ∈ Region.ready .any ops ls → H t) (hin : H i) (hdone : ∀ ls a, L ls a → ∀ j ∈ Region.ready .any ops ls, ¬ H j) (f : Nat) :
    ∀ (ls : Array Bool) (a : Act), MixInv ops ls1 H ls →
      (∀ j oj, ops[j]? = some oj → j ≠ i → ls.getD j true = false → (∀ e ∈ oj.after, Region.binds .any e = true → e.on ≠ i) → oi.apart ops oj = true) →
      i ∈ Region.ready .any ops ls → YieldsIn P ops C oi v a → mixQ P ops C H L f (ls.setIfInBounds i true) (a.put oi.dst v) → mixQ P ops C H L (f + 1) ls a := by
  induction f with
  | zero =>
    intro ls a inv _ hr hy H'
    have hun := (mem_ready.1 hr).1
    refine ⟨List.ne_nil_of_mem hr, fun j hj => ?_⟩
    have hjn : H j := hwait ls inv i hin hun j hj
    by_cases e : j = i
    · rw [e] at hjn ⊢; exact ⟨hjn, hy.qOp hi H'⟩
    · exact absurd hjn (hdone _ _ H' j (ready_mono hj e))
  | succ f ih =>
    intro ls a inv hfree hr hy H'
    have hun := (mem_ready.1 hr).1
    refine ⟨List.ne_nil_of_mem hr, fun j hj => ?_⟩
    have hjn : H j := hwait ls inv i hin hun j hj
    by_cases e : j = i
    · rw [e] at hjn ⊢; exact ⟨hjn, hy.qOp hi H'⟩
    · refine ⟨hjn, ?_⟩
      obtain ⟨hjun, oj, hoj, hall⟩ := mem_ready.1 hj
      have hno : ∀ x ∈ oj.after, Region.binds .any x = true → x.on ≠ i := by
        intro x hx hb he
        have := hall x hx hb
        rw [he, getD_both hun] at this
        cases this
      have h2 := qOp_put hoj (hfree j oj hoj e hjun hno) (fun cs b => hsel i oi cs b hi) (fun cs b => hsel j oj cs b hoj) hy (H'.2 j (ready_mono hj e)).2
      refine qOp_mono (fun a' h3 => ih _ a' (inv.set hj hjn) (fun k ok hk hki hku hkn => hfree k ok hk hki ?_ hkn) (ready_mono hr (Ne.symm e)) h3.1 (by rw [Array.setIfInBounds_comm _ _ e]; exact h3.2)) h2
      by_cases hjk : j = k
      · rw [← hjk]; exact hjun
      · rwa [getD_set_ne true hjk] at hku
def quietsB (ops : Array Oper) (tl : List Nat) : List Nat → Array Bool → Bool
  | [], ls => tailB .any ops tl ls
  | k :: r, ls => (ops[k]?).isSome && (Region.ready .any ops ls).contains k && Region.free .any ops ls k && quietsB ops tl r (ls.setIfInBounds k true)
theorem mixQ_lex {ls1 : Array Bool} {H : Nat → Prop} {K : Act → Prop} {tl : List Nat} (hsel : Region.noSelect ops = true) (hwait : ∀ ls, MixInv ops ls1 H ls → ∀ i, H i → ls.getD i true = false → ∀ t, t ∈ Region.ready .any ops ls → H t)
    (htl : ∀ t ∈ tl, ¬ H t) (l : List Nat) :
    ∀ (ls : Array Bool) (a : Act), (∀ k ∈ l, H k) → MixInv ops ls1 H ls → quietsB ops tl l ls = true →
    wpQuiet P ops C K (l.map (ops.getD · default)) a → mixQ P ops C H (fun ls' a' => tailB .any ops tl ls' = true ∧ K a') l.length ls a := by
  have hdone : ∀ ls' (a' : Act), (tailB .any ops tl ls' = true ∧ K a') → ∀ j ∈ Region.ready .any ops ls', ¬ H j := by
    intro ls' a' h j hj
    cases tl with
    | nil => simp only [tailB, List.isEmpty_iff] at h; rw [h.1] at hj; cases hj
    | cons t r =>
      simp only [tailB, Bool.and_eq_true, decide_eq_true_eq] at h
      rw [h.1.1.1] at hj
      have : j = t := by simpa using hj
      subst this
      exact htl _ (by simp)
  induction l with
  | nil => intro ls a _ _ hB h; exact ⟨by simpa [quietsB] using hB, h⟩
  | cons k r ih =>
    intro ls a hl inv hB h
    simp only [quietsB, Bool.and_eq_true] at hB
    obtain ⟨o, ho⟩ := Option.isSome_iff_exists.1 hB.1.1.1
    have hr : k ∈ Region.ready .any ops ls := by simpa using hB.1.1.2
    have hk : ops.getD k default = o := by simp [Array.getD_eq_getD_getElem?, ho]
    rw [List.map_cons, hk] at h
    have hq : qOp P ops C k (wpQuiet P ops C K (r.map (ops.getD · default))) a := by unfold qOp; simp only [ho]; exact h
    obtain ⟨v, hy, hK⟩ := yieldsIn_of_qOp ho hq
    refine mixQ_first ho (Region.noSelect_spec hsel) hwait (hl k (by simp)) hdone r.length ls a inv (Region.free_spec ho hB.1.2) hr hy ?_
    exact ih _ _ (fun k' hk' => hl k' (List.mem_cons_of_mem _ hk')) (inv.set hr (hl k (by simp))) hB.2 hK
/-- All that the order of a mixed region asks: decided by running it. -/
def mixB (ops : Array Oper) (hd qs : List Nat) (t0 : Nat) (tr : List Nat) : Bool :=
  let ls0 := Array.replicate ops.size false
  let ls1 := markB hd ls0
  Region.noSelect ops && pureB .any ops hd ls0 && quietsB ops (t0 :: tr) qs ls1 && sinkL ops qs t0 && chainL ops (t0 :: tr) &&
    (t0 :: tr).all (fun t => !qs.contains t && !(ls1.getD t true)) && (t0 :: qs).all (fun i => decide (i < ops.size)) && decide (hd.length + (qs.length + (t0 :: tr).length) = ops.size) &&
    (List.range ops.size).all (fun i => ls1.getD i true || qs.contains i || (t0 :: tr).contains i) && decide (ls1.size = ops.size) &&
    (List.range ops.size).all (fun j => match ops[j]? with | some oj => !(ls1.getD j false) || oj.after.all (fun e => !Region.binds .any e || ls1.getD e.on false) | none => true)
end
/-- 'hd' read no memory and are taken first; 'qs' are quiet in every world that w grows to (calls may lay new memory); t0 :: tr come behind, in that order. -/
theorem wp_region_mix {P : Program} {id : Nat} {R : Exit → Act → World → Prop} {a : Act} {w : World} {l : List Oper} (hd qs : List Nat) (t0 : Nat) (tr : List Nat) (hm : P.follows .mixedOrders = true)
    (hB : mixB l.toArray hd qs t0 tr = true) (hQ : ∀ c a d v w, R (.panic c) (Act.put a d v) w → R (.panic c) a w)
    (h : wpQuiet P l.toArray (fun _ => True) (fun a' => wpQuiet P l.toArray (fun w' => ∃ m : QW w, w' = m.val) (fun a'' => ∀ w', (∃ m : QW w, w' = m.val) → wpList P l.toArray R ((t0 :: tr).map (l.toArray.getD · default)) a'' w') (qs.map (l.toArray.getD · default)) a') (hd.map (l.toArray.getD · default)) a) :
    (Code.region id l.toArray true).wp P R a w := by
  simp only [mixB, Bool.and_eq_true, decide_eq_true_eq] at hB
  obtain ⟨⟨⟨⟨⟨⟨⟨⟨⟨⟨h1, h2⟩, h3⟩, h4⟩, h5⟩, h6⟩, h7⟩, h8⟩, h9⟩, h10⟩, h11⟩ := hB
  refine wp_region_held (S := fun _ => True) hm ?_
  rw [← h8]
  have e2 : Array.replicate (hd.length + (qs.length + (t0 :: tr).length)) false = Array.replicate l.toArray.size false := by rw [h8]
  rw [e2]
  generalize hls : markB hd (Array.replicate l.toArray.size false) = ls1 at *
  refine any_head h1 hQ _ _ hd _ a h2 (wpQuiet_mono (fun a' h' => ?_) _ _ h)
  rw [hls]
  refine held_of_any _ _ _ _ ?_
  have hT : ∀ t ∈ t0 :: tr, t ∉ qs ∧ ls1.getD t true = false := by
    intro t ht
    have := List.all_eq_true.1 h6 t ht
    simpa using this
  have hsz : ∀ i ∈ t0 :: qs, i < l.toArray.size := fun i hi => by have := List.all_eq_true.1 h7 i hi; simpa using this
  have hwait : ∀ ls, MixInv l.toArray ls1 (· ∈ qs) ls → ∀ i, i ∈ qs → ls.getD i true = false → ∀ t, t ∈ Region.ready .any l.toArray ls → t ∈ qs := by
    intro ls inv i hi hun t ht
    obtain ⟨htun, ot, hot, _⟩ := mem_ready.1 ht
    have htl : t < l.toArray.size := (Array.getElem?_eq_some_iff.1 hot).1
    have := List.all_eq_true.1 h9 t (List.mem_range.2 htl)
    simp only [Bool.or_eq_true, List.contains_iff_mem] at this
    rcases this with (g | g) | g
    · rw [inv.more t g] at htun; cases htun
    · exact g
    · exact absurd ht (mix_waits hsz h4 h5 hT hsz inv _ i rfl hi hun t g)
  have inv0 : MixInv l.toArray ls1 (· ∈ qs) ls1 := ⟨h10, fun j oj hj hl e he hb => by
    have hjl : j < l.toArray.size := (Array.getElem?_eq_some_iff.1 hj).1
    have := List.all_eq_true.1 h11 j (List.mem_range.2 hjl)
    rw [hj] at this
    simp only [hl, Bool.not_true, Bool.false_or] at this
    have := Array.all_eq_true'.1 this e he
    simpa [hb] using this, fun t _ h => h, fun t h => h⟩
  have H := mixQ_lex (C := fun w' => ∃ m : QW w, w' = m.val) h1 hwait (fun t ht => (hT t ht).1) qs ls1 a' (fun k hk => hk) inv0 h3 h'
  exact any_of_mixQ (fun ls a w hw hL => wpAny_of_held _ _ _ _ (any_tail _ _ _ _ hL.1 (hL.2 w hw))) _ _ _ _ ⟨⟨w.drew, (Q.refl w).drew⟩, rfl⟩ H
/-- A whole array or struct that stands in a block is read alike in every world of the class. -/
theorem wpQuiet_load_row {P : Program} {ops : Array Oper} {C : World → Prop} {K : Act → Prop} {rest : List Oper} {o : Oper} {a : Act} (hgd : o.guard = none) (ty : TypeId) (x : Operand) (ho : o.op = .load ty x)
    (g : Nat) (hx : a.eval x = .pointer (some ⟨g, 0, none⟩)) (t : TypeId) (cs : Array Value) (fr : Nat × Nat) (d : TypeDesc) (hg : ∀ w, C w → w.heap[g]? = some (.cells cs t fr))
    (hu : P.underlying ty = some d) (hd : (match d with | .struct _ | .array _ _ => true | _ => false) = true) (hi : (P.info? ty).map (·.size) = some cs.size)
    (h : wpQuiet P ops C K rest (a.put o.dst (.agg cs))) : wpQuiet P ops C K (o :: rest) a := by
  have hw : Region.wanted o (yielded ops a.tmps) = true := by simp [Region.wanted, hgd]
  unfold wpQuiet
  rw [if_pos hw]
  refine ⟨_, fun w hC => ?_, h⟩
  unfold Oper.quietAt execOp
  simp only [ho, hx, Instr.loadAt, Instr.sureAddr, Sem.run_bind, Sem.run_pure, Result.andThen_ok, run_loadVar_row w g t ty cs fr d (hg w hC) hu hd hi]
  exact ⟨rfl, rfl⟩
/-- A conversion that answers alike in every world of the class. -/
theorem wpQuiet_conv {P : Program} {ops : Array Oper} {C : World → Prop} {K : Act → Prop} {rest : List Oper} {o : Oper} {a : Act} (hgd : o.guard = none) (s d : TypeId) (x : Operand) (ho : o.op = .convert s d x) (v u : Value)
    (hx : a.eval x = v) (hr : ∀ w, C w → (convert s d v).run P w = .ok u w) (h : wpQuiet P ops C K rest (a.put o.dst u)) : wpQuiet P ops C K (o :: rest) a := by
  have hw : Region.wanted o (yielded ops a.tmps) = true := by simp [Region.wanted, hgd]
  unfold wpQuiet
  rw [if_pos hw]
  refine ⟨_, fun w hC => ?_, h⟩
  unfold Oper.quietAt execOp
  simp only [ho, hx, Sem.run_bind, Sem.run_pure, hr w hC, Result.andThen_ok]
  exact ⟨rfl, rfl⟩
end Go.Proofs.YtmmoenbmgcplkaaGreatDoor
