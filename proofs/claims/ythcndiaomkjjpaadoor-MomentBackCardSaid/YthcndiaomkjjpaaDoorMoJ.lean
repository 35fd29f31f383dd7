/- Reading a moment's text: the worlds in which a reader may stand. -/
import Derived.Test.YthcndiaomkjjpaaDoorMoI
import Derived.Test.YthcndiaomkjjpaaDoorMoG
set_option linter.unusedVariables false
namespace Go.Proofs.YthcndiaomkjjpaaDoor
open Go Go.RowKit
/-- A world that w0 has become by calls of the reader in block g; if st, the reader has not failed. -/
structure RW (w0 : World) (g : Nat) (l : List UInt8) (st : Bool) where
  val : World
  gx : GX [g] w0 val
  rd : ∃ b, ReadAt val g l b ∧ (st = true → b = true)
  g0 : ReadAt w0 g l true
theorem RW.ne {w0 : World} {g : Nat} {l : List UInt8} (st : Bool) (h : ReadAt w0 g l true) : Nonempty (RW w0 g l st) := ⟨⟨w0, GX.refl _ _, ⟨true, h, fun _ => rfl⟩, h⟩⟩
theorem RW.c0 {w0 : World} {g : Nat} {l : List UInt8} {st : Bool} (m : RW w0 g l st) : m.val.cell? ⟨g, 0, none⟩ = some (.string ⟨l.toArray⟩) := by obtain ⟨b, h, _⟩ := m.rd; exact h.c0
theorem RW.cell {w0 : World} {g : Nat} {l : List UInt8} {st : Bool} (m : RW w0 g l st) {b o : Nat} {v : Value} (h : w0.cell? ⟨b, o, none⟩ = some v) (hb : b ≠ g) : m.val.cell? ⟨b, o, none⟩ = some v := by
  rw [World.cell?_of_block (m.gx.block b (lt_of_cell h) (by simpa using hb))]; exact h
def nv (l : List UInt8) (a k : Int) : Int := (numK l a.toNat k.toNat).getD 0
theorem nv_bd (l : List UInt8) (a k : Int) (hk : k = 2 ∨ k = 4) : 0 ≤ nv l a k ∧ nv l a k ≤ 9999 := by
  unfold nv
  cases h : numK l a.toNat k.toNat with
  | none => simp
  | some n =>
    have hb := numK_bd _ _ _ _ h
    simp only [Option.getD_some]
    have : (10 : Int) ^ k.toNat ≤ 10000 := by rcases hk with rfl | rfl <;> decide
    omega
theorem numP_r {w0 : World} {g : Nat} {l : List UInt8} {st : Bool} (m : RW w0 g l st) (a k : Int) (ha0 : 0 ≤ a) (ha : a ≤ 1000) (hk0 : 0 ≤ k) (hk : k ≤ 4) (hl : l.length ≤ 140737488355328)
    (hst : st = true → (numK l a.toNat k.toNat).isSome = true) :
    Calls Tryd.prog 38 #[.pointer (some ⟨g, 0, none⟩), .int .i64 a, .int .i64 k] m.val fun e w' => e = .returned (.int .i64 (nv l a k)) ∧ ∃ j : RW w0 g l st, w' = j.val := by
  obtain ⟨b, hr, hb⟩ := m.rd
  have h := numP_nat l g b a.toNat k.toNat m.val hr (by omega) (by omega) hl
  rw [show ((a.toNat : Nat) : Int) = a from by omega, show ((k.toNat : Nat) : Int) = k from by omega] at h
  refine h.mono fun e w' ⟨he, hw⟩ => ⟨he, ?_⟩
  cases hs : (numK l a.toNat k.toNat).isSome
  · rw [hs] at hw
    refine ⟨⟨w', ?_, ⟨false, ?_, fun h => ?_⟩, m.g0⟩, rfl⟩
    · rw [hw]; exact m.gx.set (by simp) _ _
    · rw [hw]; unfold ReadAt; rw [heap_setCell_same _ _ _ _ _ _ hr]; rfl
    · rw [hst h] at hs; cases hs
  · rw [hs] at hw
    exact ⟨m, hw⟩
theorem calls_r {P : Program} {f : FuncId} {args : Array Value} {w0 : World} {g : Nat} {l : List UInt8} {st : Bool} {m : RW w0 g l st} {v : Value}
    (h : Calls P f args m.val fun e w' => e = .returned v ∧ m.val = w') : Calls P f args m.val fun e w'' => e = .returned v ∧ ∃ k : RW w0 g l st, w'' = k.val :=
  h.mono fun _ _ ⟨he, hq⟩ => ⟨he, m, hq.symm⟩
/-- Where a day begins; what From says. -/
def fromI (Y m d : Int) : Int := if vldB Y m d then (dayZ Y m d - 719468) * 86400 else 0
def fromE (Y m d : Int) : Int := if vldB Y m d then 0 else 1
theorem From_any (Y m d : Int) (w : World) : Calls Tryd.prog 18 #[.int .i64 Y, .int .i64 m, .int .i64 d] w fun e w' => e = .returned (.tuple #[.int .i64 (fromI Y m d), .int .i64 (fromE Y m d)]) ∧ w = w' := by
  cases h : vldB Y m d
  · unfold fromI fromE; rw [h]; exact From_no Y m d w h
  · unfold fromI fromE; rw [h]; exact From_ok Y m d w h
theorem RW.same {w0 : World} {g : Nat} {l : List UInt8} {st : Bool} (h : ReadAt w0 g l true) {x v : Value} : (∀ m : RW w0 g l st, m.val = m.val ∧ x = v) ↔ x = v := by
  constructor
  · intro h2; exact (h2 ⟨w0, GX.refl _ _, ⟨true, h, fun _ => rfl⟩, h⟩).2
  · intro h m; exact ⟨rfl, h⟩
theorem wp_region_r {P : Program} {id : Nat} {R : Exit → Act → World → Prop} {a : Act} {w0 : World} {g : Nat} {lt : List UInt8} {st : Bool} (m : RW w0 g lt st) {l : List Oper} (hm : P.follows .mixedOrders = true) (hB : Region.lexB .any l.toArray = true)
    (h : wpQuiet P l.toArray (fun w' => ∃ m : RW w0 g lt st, w' = m.val) (fun a' => ∀ w', (∃ m : RW w0 g lt st, w' = m.val) → R .normal a' w') l a) : (Code.region id l.toArray true).wp P R a m.val :=
  wp_region_quiet (C := fun w' => ∃ m : RW w0 g lt st, w' = m.val) hm hB ⟨⟨m.val.drew, m.gx.drew, by obtain ⟨b, h1, h2⟩ := m.rd; exact ⟨b, h1, h2⟩, m.g0⟩, rfl⟩ (by simpa using h)
end Go.Proofs.YthcndiaomkjjpaaDoor
