/-
  DERIVED. GIVEN WITH THE SEED: THE CARDS: each row of YtjbdjkpbkjkdpaaDoorRows.lean that lists a variable, with what it lists TIED to the program's text (the seventh form; the later family's looks); each row that meets fmt, with fmt's text TOLD by the authors' own Lean function (tested against real Go, not proved from fmt's source: count such statements apart). THE CARD IS WHAT COUNTS. Prove the row's statement (the work); the ties are given (YtjbdjkpbkjkdpaaDoorTie.lean); close each card by the builder's one call (the guide's Derived/Test/ToyasCard.lean, 'card_holds'). Laid BY PROGRAM, IN A SANDBOX (cutbox-door.mjs). By AI agents, Wed Nov 11 2026. No macro, syntax, notation, axiom, sorry.
-/
import Derived.Test.YtjbdjkpbkjkdpaaDoorRows
import GoSem.ClaimSeven
namespace Go.Proofs.YtjbdjkpbkjkdpaaDoor
namespace Rows

/-- THE TIED CARD OF 'storehouselaw04.JournalTwo'. -/
def journalTwoCard : Claim7 := { stood := { row := journalTwoRow, standIns := [], harness := (true, "4c9149604889dea132bd1994121b7f56e26a6314572ca9b65c4924b64bac8b32"), looks := true }, kinds := [], alts := [], laidByText := true, laidKinds := [.handle], laidTests := true, laidLooks := .later }
def JournalTwoCardSaid : Prop := Claim7.holds Tryd.pinned (.plain (OpenSpec.ofChange journalTwoSpec)) journalTwoCard

/-- THE TIED CARD OF 'storehouselaw04.JournalAnew'. -/
def journalAnewCard : Claim7 := { stood := { row := journalAnewRow, standIns := [], harness := (true, "4c9149604889dea132bd1994121b7f56e26a6314572ca9b65c4924b64bac8b32"), looks := true }, kinds := [], alts := [], laidByText := true, laidKinds := [.handle], laidTests := true, laidLooks := .later }
def JournalAnewCardSaid : Prop := Claim7.holds Tryd.pinned (.plain (OpenSpec.ofChange journalAnewSpec)) journalAnewCard

/-- THE TIED CARD OF 'storehouselaw04.JournalLooks'. -/
def journalLooksCard : Claim7 := { stood := { row := journalLooksRow, standIns := [], harness := (true, "4c9149604889dea132bd1994121b7f56e26a6314572ca9b65c4924b64bac8b32"), looks := true }, kinds := [], alts := [], laidByText := true, laidKinds := [.handle], laidTests := true, laidLooks := .later }
def JournalLooksCardSaid : Prop := Claim7.holds Tryd.pinned (.plain (OpenSpec.ofChange journalLooksSpec)) journalLooksCard

/-- THE TIED CARD OF 'storehouselaw04.JournalCrash'. -/
def journalCrashCard : Claim7 := { stood := { row := journalCrashRow, standIns := [], harness := (true, "4c9149604889dea132bd1994121b7f56e26a6314572ca9b65c4924b64bac8b32"), looks := true }, kinds := [], alts := [], laidByText := true, laidKinds := [.handle], laidTests := true, laidLooks := .later }
def JournalCrashCardSaid : Prop := Claim7.holds Tryd.pinned (.plain (OpenSpec.ofChange journalCrashSpec)) journalCrashCard

/-- THE TIED CARD OF 'storehouselaw04.JournalResets'. -/
def journalResetsCard : Claim7 := { stood := { row := journalResetsRow, standIns := [], harness := (true, "4c9149604889dea132bd1994121b7f56e26a6314572ca9b65c4924b64bac8b32"), looks := true }, kinds := [], alts := [], laidByText := true, laidKinds := [.handle], laidTests := true, laidLooks := .later }
def JournalResetsCardSaid : Prop := Claim7.holds Tryd.pinned (.plain (OpenSpec.ofChange journalResetsSpec)) journalResetsCard

/-- THE SECOND FORM's CARD OF 'storehouselaw04.JournalTwo'. -/
def journalTwoUptoCard : Claim7 := { stood := { row := journalTwoUptoRow, standIns := [], harness := (true, "4c9149604889dea132bd1994121b7f56e26a6314572ca9b65c4924b64bac8b32"), looks := true }, kinds := [], alts := [], laidByText := true, laidKinds := [.handle], laidTests := true, laidLooks := .later }
def JournalTwoUptoCardSaid : Prop := Claim7.holds Tryd.pinned (.plain (OpenSpec.upto journalTwoSpec)) journalTwoUptoCard

/-- THE SECOND FORM's CARD OF 'storehouselaw04.JournalAnew'. -/
def journalAnewUptoCard : Claim7 := { stood := { row := journalAnewUptoRow, standIns := [], harness := (true, "4c9149604889dea132bd1994121b7f56e26a6314572ca9b65c4924b64bac8b32"), looks := true }, kinds := [], alts := [], laidByText := true, laidKinds := [.handle], laidTests := true, laidLooks := .later }
def JournalAnewUptoCardSaid : Prop := Claim7.holds Tryd.pinned (.plain (OpenSpec.upto journalAnewSpec)) journalAnewUptoCard

/-- THE SECOND FORM's CARD OF 'storehouselaw04.JournalLooks'. -/
def journalLooksUptoCard : Claim7 := { stood := { row := journalLooksUptoRow, standIns := [], harness := (true, "4c9149604889dea132bd1994121b7f56e26a6314572ca9b65c4924b64bac8b32"), looks := true }, kinds := [], alts := [], laidByText := true, laidKinds := [.handle], laidTests := true, laidLooks := .later }
def JournalLooksUptoCardSaid : Prop := Claim7.holds Tryd.pinned (.plain (OpenSpec.upto journalLooksSpec)) journalLooksUptoCard

/-- THE SECOND FORM's CARD OF 'storehouselaw04.JournalCrash'. -/
def journalCrashUptoCard : Claim7 := { stood := { row := journalCrashUptoRow, standIns := [], harness := (true, "4c9149604889dea132bd1994121b7f56e26a6314572ca9b65c4924b64bac8b32"), looks := true }, kinds := [], alts := [], laidByText := true, laidKinds := [.handle], laidTests := true, laidLooks := .later }
def JournalCrashUptoCardSaid : Prop := Claim7.holds Tryd.pinned (.plain (OpenSpec.upto journalCrashSpec)) journalCrashUptoCard

/-- THE SECOND FORM's CARD OF 'storehouselaw04.JournalResets'. -/
def journalResetsUptoCard : Claim7 := { stood := { row := journalResetsUptoRow, standIns := [], harness := (true, "4c9149604889dea132bd1994121b7f56e26a6314572ca9b65c4924b64bac8b32"), looks := true }, kinds := [], alts := [], laidByText := true, laidKinds := [.handle], laidTests := true, laidLooks := .later }
def JournalResetsUptoCardSaid : Prop := Claim7.holds Tryd.pinned (.plain (OpenSpec.upto journalResetsSpec)) journalResetsUptoCard
end Rows
end Go.Proofs.YtjbdjkpbkjkdpaaDoor
