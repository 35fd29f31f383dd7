/-
  DERIVED. GIVEN WITH THE SEED: THE CARDS: each row of YtmmoenbmgcplkaaGreatDoorRows.lean that lists a variable, with what it lists TIED to the program's text (the seventh form; the later family's looks); each row that meets fmt, with fmt's text TOLD by the authors' own Lean function (tested against real Go, not proved from fmt's source: count such statements apart). THE CARD IS WHAT COUNTS. Prove the row's statement (the work); the ties are given (YtmmoenbmgcplkaaGreatDoorTie.lean); close each card by the builder's one call (the guide's Derived/Test/ToyasCard.lean, 'card_holds'). Laid BY PROGRAM, IN A SANDBOX (cutbox-door.mjs). By AI agents, Wed Nov 11 2026. No macro, syntax, notation, axiom, sorry.
-/
import Derived.Test.YtmmoenbmgcplkaaGreatDoorRows
import GoSem.ClaimSeven
namespace Go.Proofs.YtmmoenbmgcplkaaGreatDoor
namespace Rows

/-- THE TIED CARD OF 'storehouselaw17.SignBack'. -/
def signBackCard : Claim7 := { stood := { row := signBackRow, standIns := [], harness := (true, "89e22d5819962aa91a5d08f1dca341051c670b7ee4a2c299071edf49a13ae283"), looks := true }, kinds := [], alts := [], laidByText := true, laidKinds := [.data, .data, .data, .data, .handle, .data, .data, .pinned, .pinned], laidTests := true, laidLooks := .later }
def SignBackCardSaid : Prop := Claim7.holds Tryz.pinned (.plain (OpenSpec.ofChange signBackSpec)) signBackCard

/-- THE TIED CARD OF 'storehouselaw17.SignBody'. -/
def signBodyCard : Claim7 := { stood := { row := signBodyRow, standIns := [], harness := (true, "89e22d5819962aa91a5d08f1dca341051c670b7ee4a2c299071edf49a13ae283"), looks := true }, kinds := [], alts := [], laidByText := true, laidKinds := [.data, .data, .data, .data, .handle, .data, .data, .pinned, .pinned], laidTests := true, laidLooks := .later }
def SignBodyCardSaid : Prop := Claim7.holds Tryz.pinned (.plain (OpenSpec.ofChange signBodySpec)) signBodyCard

/-- THE TIED CARD OF 'storehouselaw17.SignNothing'. -/
def signNothingCard : Claim7 := { stood := { row := signNothingRow, standIns := [], harness := (true, "89e22d5819962aa91a5d08f1dca341051c670b7ee4a2c299071edf49a13ae283"), looks := true }, kinds := [], alts := [], laidByText := true, laidKinds := [.data, .data, .data, .data, .handle, .data, .data, .pinned, .pinned], laidTests := true, laidLooks := .later }
def SignNothingCardSaid : Prop := Claim7.holds Tryz.pinned (.plain (OpenSpec.ofChange signNothingSpec)) signNothingCard

/-- THE TIED CARD OF 'storehouselaw17.SignTexts'. -/
def signTextsCard : Claim7 := { stood := { row := signTextsRow, standIns := [], harness := (true, "89e22d5819962aa91a5d08f1dca341051c670b7ee4a2c299071edf49a13ae283"), looks := true }, kinds := [], alts := [], laidByText := true, laidKinds := [.data, .data, .data, .data, .handle, .data, .data, .pinned, .pinned], laidTests := true, laidLooks := .later }
def SignTextsCardSaid : Prop := Claim7.holds Tryz.pinned (.plain (OpenSpec.ofChange signTextsSpec)) signTextsCard

/-- THE TIED CARD OF 'storehouselaw17.SignSigns'. -/
def signSignsCard : Claim7 := { stood := { row := signSignsRow, standIns := [], harness := (true, "89e22d5819962aa91a5d08f1dca341051c670b7ee4a2c299071edf49a13ae283"), looks := true }, kinds := [], alts := [], laidByText := true, laidKinds := [.data, .data, .data, .data, .handle, .data, .data, .pinned, .pinned], laidTests := true, laidLooks := .later }
def SignSignsCardSaid : Prop := Claim7.holds Tryz.pinned (.plain (OpenSpec.ofChange signSignsSpec)) signSignsCard

/-- THE TIED CARD OF 'storehouselaw17.SignChecks'. -/
def signChecksCard : Claim7 := { stood := { row := signChecksRow, standIns := [], harness := (true, "89e22d5819962aa91a5d08f1dca341051c670b7ee4a2c299071edf49a13ae283"), looks := true }, kinds := [], alts := [], laidByText := true, laidKinds := [.data, .data, .data, .data, .handle, .data, .data, .pinned, .pinned], laidTests := true, laidLooks := .later }
def SignChecksCardSaid : Prop := Claim7.holds Tryz.pinned (.plain (OpenSpec.ofChange signChecksSpec)) signChecksCard

/-- THE SECOND FORM's CARD OF 'storehouselaw17.SignBack'. -/
def signBackUptoCard : Claim7 := { stood := { row := signBackUptoRow, standIns := [], harness := (true, "89e22d5819962aa91a5d08f1dca341051c670b7ee4a2c299071edf49a13ae283"), looks := true }, kinds := [], alts := [], laidByText := true, laidKinds := [.data, .data, .data, .data, .handle, .data, .data, .pinned, .pinned], laidTests := true, laidLooks := .later }
def SignBackUptoCardSaid : Prop := Claim7.holds Tryz.pinned (.plain (OpenSpec.upto signBackSpec)) signBackUptoCard

/-- THE SECOND FORM's CARD OF 'storehouselaw17.SignBody'. -/
def signBodyUptoCard : Claim7 := { stood := { row := signBodyUptoRow, standIns := [], harness := (true, "89e22d5819962aa91a5d08f1dca341051c670b7ee4a2c299071edf49a13ae283"), looks := true }, kinds := [], alts := [], laidByText := true, laidKinds := [.data, .data, .data, .data, .handle, .data, .data, .pinned, .pinned], laidTests := true, laidLooks := .later }
def SignBodyUptoCardSaid : Prop := Claim7.holds Tryz.pinned (.plain (OpenSpec.upto signBodySpec)) signBodyUptoCard

/-- THE SECOND FORM's CARD OF 'storehouselaw17.SignNothing'. -/
def signNothingUptoCard : Claim7 := { stood := { row := signNothingUptoRow, standIns := [], harness := (true, "89e22d5819962aa91a5d08f1dca341051c670b7ee4a2c299071edf49a13ae283"), looks := true }, kinds := [], alts := [], laidByText := true, laidKinds := [.data, .data, .data, .data, .handle, .data, .data, .pinned, .pinned], laidTests := true, laidLooks := .later }
def SignNothingUptoCardSaid : Prop := Claim7.holds Tryz.pinned (.plain (OpenSpec.upto signNothingSpec)) signNothingUptoCard

/-- THE SECOND FORM's CARD OF 'storehouselaw17.SignTexts'. -/
def signTextsUptoCard : Claim7 := { stood := { row := signTextsUptoRow, standIns := [], harness := (true, "89e22d5819962aa91a5d08f1dca341051c670b7ee4a2c299071edf49a13ae283"), looks := true }, kinds := [], alts := [], laidByText := true, laidKinds := [.data, .data, .data, .data, .handle, .data, .data, .pinned, .pinned], laidTests := true, laidLooks := .later }
def SignTextsUptoCardSaid : Prop := Claim7.holds Tryz.pinned (.plain (OpenSpec.upto signTextsSpec)) signTextsUptoCard

/-- THE SECOND FORM's CARD OF 'storehouselaw17.SignSigns'. -/
def signSignsUptoCard : Claim7 := { stood := { row := signSignsUptoRow, standIns := [], harness := (true, "89e22d5819962aa91a5d08f1dca341051c670b7ee4a2c299071edf49a13ae283"), looks := true }, kinds := [], alts := [], laidByText := true, laidKinds := [.data, .data, .data, .data, .handle, .data, .data, .pinned, .pinned], laidTests := true, laidLooks := .later }
def SignSignsUptoCardSaid : Prop := Claim7.holds Tryz.pinned (.plain (OpenSpec.upto signSignsSpec)) signSignsUptoCard

/-- THE SECOND FORM's CARD OF 'storehouselaw17.SignChecks'. -/
def signChecksUptoCard : Claim7 := { stood := { row := signChecksUptoRow, standIns := [], harness := (true, "89e22d5819962aa91a5d08f1dca341051c670b7ee4a2c299071edf49a13ae283"), looks := true }, kinds := [], alts := [], laidByText := true, laidKinds := [.data, .data, .data, .data, .handle, .data, .data, .pinned, .pinned], laidTests := true, laidLooks := .later }
def SignChecksUptoCardSaid : Prop := Claim7.holds Tryz.pinned (.plain (OpenSpec.upto signChecksSpec)) signChecksUptoCard
end Rows
end Go.Proofs.YtmmoenbmgcplkaaGreatDoor
