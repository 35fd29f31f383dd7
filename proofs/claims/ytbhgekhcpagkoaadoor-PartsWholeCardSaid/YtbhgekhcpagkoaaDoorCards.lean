/-
  DERIVED. GIVEN WITH THE SEED: THE CARDS: each row of YtbhgekhcpagkoaaDoorRows.lean that lists a variable, with what it lists TIED to the program's text (the seventh form; the later family's looks); each row that meets fmt, with fmt's text TOLD by the authors' own Lean function (tested against real Go, not proved from fmt's source: count such statements apart). THE CARD IS WHAT COUNTS. Prove the row's statement (the work); the ties are given (YtbhgekhcpagkoaaDoorTie.lean); close each card by the builder's one call (the guide's Derived/Test/ToyasCard.lean, 'card_holds'). Laid BY PROGRAM, IN A SANDBOX (cutbox-door.mjs). By AI agents, Wed Nov 11 2026. No macro, syntax, notation, axiom, sorry.
-/
import Derived.Test.YtbhgekhcpagkoaaDoorRows
import GoSem.ClaimSeven
namespace Go.Proofs.YtbhgekhcpagkoaaDoor
namespace Rows

/-- THE TIED CARD OF 'storehouselaw21.PartsOrder'. -/
def partsOrderCard : Claim7 := { stood := { row := partsOrderRow, standIns := [], harness := (true, "754a0ef5e5d57c78b982dd0a7d694e8a4bbc5dafa2e88079aabc687508374d42"), looks := false }, kinds := [], alts := [], laidByText := true, laidKinds := [.data, .data, .data], laidTests := true, laidLooks := .later }
def PartsOrderCardSaid : Prop := Claim7.holds Tryd.pinned (.plain (OpenSpec.ofChange partsOrderSpec)) partsOrderCard

/-- THE TIED CARD OF 'storehouselaw21.PartsWhole'. -/
def partsWholeCard : Claim7 := { stood := { row := partsWholeRow, standIns := [], harness := (true, "754a0ef5e5d57c78b982dd0a7d694e8a4bbc5dafa2e88079aabc687508374d42"), looks := false }, kinds := [], alts := [], laidByText := true, laidKinds := [.data, .data, .data], laidTests := true, laidLooks := .later }
def PartsWholeCardSaid : Prop := Claim7.holds Tryd.pinned (.plain (OpenSpec.ofChange partsWholeSpec)) partsWholeCard

/-- THE TIED CARD OF 'storehouselaw21.PartsPuts'. -/
def partsPutsCard : Claim7 := { stood := { row := partsPutsRow, standIns := [], harness := (true, "754a0ef5e5d57c78b982dd0a7d694e8a4bbc5dafa2e88079aabc687508374d42"), looks := false }, kinds := [], alts := [], laidByText := true, laidKinds := [.data, .data, .data], laidTests := true, laidLooks := .later }
def PartsPutsCardSaid : Prop := Claim7.holds Tryd.pinned (.plain (OpenSpec.ofChange partsPutsSpec)) partsPutsCard

/-- THE TIED CARD OF 'storehouselaw21.PartsCompletes'. -/
def partsCompletesCard : Claim7 := { stood := { row := partsCompletesRow, standIns := [], harness := (true, "754a0ef5e5d57c78b982dd0a7d694e8a4bbc5dafa2e88079aabc687508374d42"), looks := false }, kinds := [], alts := [], laidByText := true, laidKinds := [.data, .data, .data], laidTests := true, laidLooks := .later }
def PartsCompletesCardSaid : Prop := Claim7.holds Tryd.pinned (.plain (OpenSpec.ofChange partsCompletesSpec)) partsCompletesCard

/-- THE TIED CARD OF 'storehouselaw21.PartsPages'. -/
def partsPagesCard : Claim7 := { stood := { row := partsPagesRow, standIns := [], harness := (true, "754a0ef5e5d57c78b982dd0a7d694e8a4bbc5dafa2e88079aabc687508374d42"), looks := false }, kinds := [], alts := [], laidByText := true, laidKinds := [.data, .data, .data], laidTests := true, laidLooks := .later }
def PartsPagesCardSaid : Prop := Claim7.holds Tryd.pinned (.plain (OpenSpec.ofChange partsPagesSpec)) partsPagesCard

/-- THE SECOND FORM's CARD OF 'storehouselaw21.PartsOrder'. -/
def partsOrderUptoCard : Claim7 := { stood := { row := partsOrderUptoRow, standIns := [], harness := (true, "754a0ef5e5d57c78b982dd0a7d694e8a4bbc5dafa2e88079aabc687508374d42"), looks := false }, kinds := [], alts := [], laidByText := true, laidKinds := [.data, .data, .data], laidTests := true, laidLooks := .later }
def PartsOrderUptoCardSaid : Prop := Claim7.holds Tryd.pinned (.plain (OpenSpec.upto partsOrderSpec)) partsOrderUptoCard

/-- THE SECOND FORM's CARD OF 'storehouselaw21.PartsWhole'. -/
def partsWholeUptoCard : Claim7 := { stood := { row := partsWholeUptoRow, standIns := [], harness := (true, "754a0ef5e5d57c78b982dd0a7d694e8a4bbc5dafa2e88079aabc687508374d42"), looks := false }, kinds := [], alts := [], laidByText := true, laidKinds := [.data, .data, .data], laidTests := true, laidLooks := .later }
def PartsWholeUptoCardSaid : Prop := Claim7.holds Tryd.pinned (.plain (OpenSpec.upto partsWholeSpec)) partsWholeUptoCard

/-- THE SECOND FORM's CARD OF 'storehouselaw21.PartsPuts'. -/
def partsPutsUptoCard : Claim7 := { stood := { row := partsPutsUptoRow, standIns := [], harness := (true, "754a0ef5e5d57c78b982dd0a7d694e8a4bbc5dafa2e88079aabc687508374d42"), looks := false }, kinds := [], alts := [], laidByText := true, laidKinds := [.data, .data, .data], laidTests := true, laidLooks := .later }
def PartsPutsUptoCardSaid : Prop := Claim7.holds Tryd.pinned (.plain (OpenSpec.upto partsPutsSpec)) partsPutsUptoCard

/-- THE SECOND FORM's CARD OF 'storehouselaw21.PartsCompletes'. -/
def partsCompletesUptoCard : Claim7 := { stood := { row := partsCompletesUptoRow, standIns := [], harness := (true, "754a0ef5e5d57c78b982dd0a7d694e8a4bbc5dafa2e88079aabc687508374d42"), looks := false }, kinds := [], alts := [], laidByText := true, laidKinds := [.data, .data, .data], laidTests := true, laidLooks := .later }
def PartsCompletesUptoCardSaid : Prop := Claim7.holds Tryd.pinned (.plain (OpenSpec.upto partsCompletesSpec)) partsCompletesUptoCard

/-- THE SECOND FORM's CARD OF 'storehouselaw21.PartsPages'. -/
def partsPagesUptoCard : Claim7 := { stood := { row := partsPagesUptoRow, standIns := [], harness := (true, "754a0ef5e5d57c78b982dd0a7d694e8a4bbc5dafa2e88079aabc687508374d42"), looks := false }, kinds := [], alts := [], laidByText := true, laidKinds := [.data, .data, .data], laidTests := true, laidLooks := .later }
def PartsPagesUptoCardSaid : Prop := Claim7.holds Tryd.pinned (.plain (OpenSpec.upto partsPagesSpec)) partsPagesUptoCard
end Rows
end Go.Proofs.YtbhgekhcpagkoaaDoor
