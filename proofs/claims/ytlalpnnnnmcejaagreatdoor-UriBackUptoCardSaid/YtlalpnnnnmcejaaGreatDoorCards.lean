/-
  DERIVED. GIVEN WITH THE SEED: THE CARDS: each row of YtlalpnnnnmcejaaGreatDoorRows.lean that lists a variable, with what it lists TIED to the program's text (the seventh form; the later family's looks); each row that meets fmt, with fmt's text TOLD by the authors' own Lean function (tested against real Go, not proved from fmt's source: count such statements apart). THE CARD IS WHAT COUNTS. Prove the row's statement (the work); the ties are given (YtlalpnnnnmcejaaGreatDoorTie.lean); close each card by the builder's one call (the guide's Derived/Test/ToyasCard.lean, 'card_holds'). Laid BY PROGRAM, IN A SANDBOX (cutbox-door.mjs). By AI agents, Wed Nov 11 2026. No macro, syntax, notation, axiom, sorry.
-/
import Derived.Test.YtlalpnnnnmcejaaGreatDoorRows
import GoSem.ClaimSeven
namespace Go.Proofs.YtlalpnnnnmcejaaGreatDoor
namespace Rows

/-- THE TIED CARD OF 'storehouselaw13.UriEscapes'. -/
def uriEscapesCard : Claim7 := { stood := { row := uriEscapesRow, standIns := [], harness := (true, "5b72ac603533b0bc9fc6efb33594a65bd93489c02a836dd5085cd92bebba7cd2"), looks := false }, kinds := [], alts := [], laidByText := true, laidKinds := [.data, .pinned, .pinned], laidTests := true, laidLooks := .later }
def UriEscapesCardSaid : Prop := Claim7.holds Tryz.pinned (.plain (OpenSpec.ofChange uriEscapesSpec)) uriEscapesCard

/-- THE TIED CARD OF 'storehouselaw13.UriTargets'. -/
def uriTargetsCard : Claim7 := { stood := { row := uriTargetsRow, standIns := [], harness := (true, "5b72ac603533b0bc9fc6efb33594a65bd93489c02a836dd5085cd92bebba7cd2"), looks := false }, kinds := [], alts := [], laidByText := true, laidKinds := [.data, .pinned, .pinned], laidTests := true, laidLooks := .later }
def UriTargetsCardSaid : Prop := Claim7.holds Tryz.pinned (.plain (OpenSpec.ofChange uriTargetsSpec)) uriTargetsCard

/-- THE TIED CARD OF 'storehouselaw13.UriCanons'. -/
def uriCanonsCard : Claim7 := { stood := { row := uriCanonsRow, standIns := [], harness := (true, "5b72ac603533b0bc9fc6efb33594a65bd93489c02a836dd5085cd92bebba7cd2"), looks := false }, kinds := [], alts := [], laidByText := true, laidKinds := [.data, .pinned, .pinned], laidTests := true, laidLooks := .later }
def UriCanonsCardSaid : Prop := Claim7.holds Tryz.pinned (.plain (OpenSpec.ofChange uriCanonsSpec)) uriCanonsCard

/-- THE TIED CARD OF 'storehouselaw13.UriBack'. -/
def uriBackCard : Claim7 := { stood := { row := uriBackRow, standIns := [], harness := (true, "5b72ac603533b0bc9fc6efb33594a65bd93489c02a836dd5085cd92bebba7cd2"), looks := false }, kinds := [], alts := [], laidByText := true, laidKinds := [.data, .pinned, .pinned], laidTests := true, laidLooks := .later }
def UriBackCardSaid : Prop := Claim7.holds Tryz.pinned (.plain (OpenSpec.ofChange uriBackSpec)) uriBackCard

/-- THE TIED CARD OF 'storehouselaw13.UriNames'. -/
def uriNamesCard : Claim7 := { stood := { row := uriNamesRow, standIns := [], harness := (true, "5b72ac603533b0bc9fc6efb33594a65bd93489c02a836dd5085cd92bebba7cd2"), looks := false }, kinds := [], alts := [], laidByText := true, laidKinds := [.data, .pinned, .pinned], laidTests := true, laidLooks := .later }
def UriNamesCardSaid : Prop := Claim7.holds Tryz.pinned (.plain (OpenSpec.ofChange uriNamesSpec)) uriNamesCard

/-- THE SECOND FORM's CARD OF 'storehouselaw13.UriEscapes'. -/
def uriEscapesUptoCard : Claim7 := { stood := { row := uriEscapesUptoRow, standIns := [], harness := (true, "5b72ac603533b0bc9fc6efb33594a65bd93489c02a836dd5085cd92bebba7cd2"), looks := false }, kinds := [], alts := [], laidByText := true, laidKinds := [.data, .pinned, .pinned], laidTests := true, laidLooks := .later }
def UriEscapesUptoCardSaid : Prop := Claim7.holds Tryz.pinned (.plain (OpenSpec.upto uriEscapesSpec)) uriEscapesUptoCard

/-- THE SECOND FORM's CARD OF 'storehouselaw13.UriTargets'. -/
def uriTargetsUptoCard : Claim7 := { stood := { row := uriTargetsUptoRow, standIns := [], harness := (true, "5b72ac603533b0bc9fc6efb33594a65bd93489c02a836dd5085cd92bebba7cd2"), looks := false }, kinds := [], alts := [], laidByText := true, laidKinds := [.data, .pinned, .pinned], laidTests := true, laidLooks := .later }
def UriTargetsUptoCardSaid : Prop := Claim7.holds Tryz.pinned (.plain (OpenSpec.upto uriTargetsSpec)) uriTargetsUptoCard

/-- THE SECOND FORM's CARD OF 'storehouselaw13.UriCanons'. -/
def uriCanonsUptoCard : Claim7 := { stood := { row := uriCanonsUptoRow, standIns := [], harness := (true, "5b72ac603533b0bc9fc6efb33594a65bd93489c02a836dd5085cd92bebba7cd2"), looks := false }, kinds := [], alts := [], laidByText := true, laidKinds := [.data, .pinned, .pinned], laidTests := true, laidLooks := .later }
def UriCanonsUptoCardSaid : Prop := Claim7.holds Tryz.pinned (.plain (OpenSpec.upto uriCanonsSpec)) uriCanonsUptoCard

/-- THE SECOND FORM's CARD OF 'storehouselaw13.UriBack'. -/
def uriBackUptoCard : Claim7 := { stood := { row := uriBackUptoRow, standIns := [], harness := (true, "5b72ac603533b0bc9fc6efb33594a65bd93489c02a836dd5085cd92bebba7cd2"), looks := false }, kinds := [], alts := [], laidByText := true, laidKinds := [.data, .pinned, .pinned], laidTests := true, laidLooks := .later }
def UriBackUptoCardSaid : Prop := Claim7.holds Tryz.pinned (.plain (OpenSpec.upto uriBackSpec)) uriBackUptoCard

/-- THE SECOND FORM's CARD OF 'storehouselaw13.UriNames'. -/
def uriNamesUptoCard : Claim7 := { stood := { row := uriNamesUptoRow, standIns := [], harness := (true, "5b72ac603533b0bc9fc6efb33594a65bd93489c02a836dd5085cd92bebba7cd2"), looks := false }, kinds := [], alts := [], laidByText := true, laidKinds := [.data, .pinned, .pinned], laidTests := true, laidLooks := .later }
def UriNamesUptoCardSaid : Prop := Claim7.holds Tryz.pinned (.plain (OpenSpec.upto uriNamesSpec)) uriNamesUptoCard
end Rows
end Go.Proofs.YtlalpnnnnmcejaaGreatDoor
