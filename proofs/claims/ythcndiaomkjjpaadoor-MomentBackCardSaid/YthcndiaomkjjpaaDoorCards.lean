/-
  DERIVED. GIVEN WITH THE SEED: THE CARDS: each row of YthcndiaomkjjpaaDoorRows.lean that lists a variable, with what it lists TIED to the program's text (the seventh form; the later family's looks); each row that meets fmt, with fmt's text TOLD by the authors' own Lean function (tested against real Go, not proved from fmt's source: count such statements apart). THE CARD IS WHAT COUNTS. Prove the row's statement (the work); the ties are given (YthcndiaomkjjpaaDoorTie.lean); close each card by the builder's one call (the guide's Derived/Test/ToyasCard.lean, 'card_holds'). Laid BY PROGRAM, IN A SANDBOX (cutbox-door.mjs). By AI agents, Wed Nov 11 2026. No macro, syntax, notation, axiom, sorry.
-/
import Derived.Test.YthcndiaomkjjpaaDoorRows
import GoSem.ClaimSeven
namespace Go.Proofs.YthcndiaomkjjpaaDoor
namespace Rows

/-- THE TIED CARD OF 'storehouselaw12.MomentRises'. -/
def momentRisesCard : Claim7 := { stood := { row := momentRisesRow, standIns := [], harness := (true, "1f4675b90dbc9376725f51b3108956cfb9affcabffb09d306ff8a99c433199e7"), looks := false }, kinds := [], alts := [], laidByText := true, laidKinds := [.data, .data, .data], laidTests := true, laidLooks := .later }
def MomentRisesCardSaid : Prop := Claim7.holds Tryd.pinned (.plain (OpenSpec.ofChange momentRisesSpec)) momentRisesCard

/-- THE TIED CARD OF 'storehouselaw12.MomentTells'. -/
def momentTellsCard : Claim7 := { stood := { row := momentTellsRow, standIns := [], harness := (true, "1f4675b90dbc9376725f51b3108956cfb9affcabffb09d306ff8a99c433199e7"), looks := false }, kinds := [], alts := [], laidByText := true, laidKinds := [.data, .data, .data], laidTests := true, laidLooks := .later }
def MomentTellsCardSaid : Prop := Claim7.holds Tryd.pinned (.plain (OpenSpec.ofChange momentTellsSpec)) momentTellsCard

/-- THE TIED CARD OF 'storehouselaw12.MomentDays'. -/
def momentDaysCard : Claim7 := { stood := { row := momentDaysRow, standIns := [], harness := (true, "1f4675b90dbc9376725f51b3108956cfb9affcabffb09d306ff8a99c433199e7"), looks := false }, kinds := [], alts := [], laidByText := true, laidKinds := [.data, .data, .data], laidTests := true, laidLooks := .later }
def MomentDaysCardSaid : Prop := Claim7.holds Tryd.pinned (.plain (OpenSpec.ofChange momentDaysSpec)) momentDaysCard

/-- THE TIED CARD OF 'storehouselaw12.MomentBack'. -/
def momentBackCard : Claim7 := { stood := { row := momentBackRow, standIns := [], harness := (true, "1f4675b90dbc9376725f51b3108956cfb9affcabffb09d306ff8a99c433199e7"), looks := false }, kinds := [], alts := [], laidByText := true, laidKinds := [.data, .data, .data], laidTests := true, laidLooks := .later }
def MomentBackCardSaid : Prop := Claim7.holds Tryd.pinned (.plain (OpenSpec.ofChange momentBackSpec)) momentBackCard

/-- THE TIED CARD OF 'storehouselaw12.MomentReads'. -/
def momentReadsCard : Claim7 := { stood := { row := momentReadsRow, standIns := [], harness := (true, "1f4675b90dbc9376725f51b3108956cfb9affcabffb09d306ff8a99c433199e7"), looks := false }, kinds := [], alts := [], laidByText := true, laidKinds := [.data, .data, .data], laidTests := true, laidLooks := .later }
def MomentReadsCardSaid : Prop := Claim7.holds Tryd.pinned (.plain (OpenSpec.ofChange momentReadsSpec)) momentReadsCard

/-- THE SECOND FORM's CARD OF 'storehouselaw12.MomentRises'. -/
def momentRisesUptoCard : Claim7 := { stood := { row := momentRisesUptoRow, standIns := [], harness := (true, "1f4675b90dbc9376725f51b3108956cfb9affcabffb09d306ff8a99c433199e7"), looks := false }, kinds := [], alts := [], laidByText := true, laidKinds := [.data, .data, .data], laidTests := true, laidLooks := .later }
def MomentRisesUptoCardSaid : Prop := Claim7.holds Tryd.pinned (.plain (OpenSpec.upto momentRisesSpec)) momentRisesUptoCard

/-- THE SECOND FORM's CARD OF 'storehouselaw12.MomentTells'. -/
def momentTellsUptoCard : Claim7 := { stood := { row := momentTellsUptoRow, standIns := [], harness := (true, "1f4675b90dbc9376725f51b3108956cfb9affcabffb09d306ff8a99c433199e7"), looks := false }, kinds := [], alts := [], laidByText := true, laidKinds := [.data, .data, .data], laidTests := true, laidLooks := .later }
def MomentTellsUptoCardSaid : Prop := Claim7.holds Tryd.pinned (.plain (OpenSpec.upto momentTellsSpec)) momentTellsUptoCard

/-- THE SECOND FORM's CARD OF 'storehouselaw12.MomentDays'. -/
def momentDaysUptoCard : Claim7 := { stood := { row := momentDaysUptoRow, standIns := [], harness := (true, "1f4675b90dbc9376725f51b3108956cfb9affcabffb09d306ff8a99c433199e7"), looks := false }, kinds := [], alts := [], laidByText := true, laidKinds := [.data, .data, .data], laidTests := true, laidLooks := .later }
def MomentDaysUptoCardSaid : Prop := Claim7.holds Tryd.pinned (.plain (OpenSpec.upto momentDaysSpec)) momentDaysUptoCard

/-- THE SECOND FORM's CARD OF 'storehouselaw12.MomentBack'. -/
def momentBackUptoCard : Claim7 := { stood := { row := momentBackUptoRow, standIns := [], harness := (true, "1f4675b90dbc9376725f51b3108956cfb9affcabffb09d306ff8a99c433199e7"), looks := false }, kinds := [], alts := [], laidByText := true, laidKinds := [.data, .data, .data], laidTests := true, laidLooks := .later }
def MomentBackUptoCardSaid : Prop := Claim7.holds Tryd.pinned (.plain (OpenSpec.upto momentBackSpec)) momentBackUptoCard

/-- THE SECOND FORM's CARD OF 'storehouselaw12.MomentReads'. -/
def momentReadsUptoCard : Claim7 := { stood := { row := momentReadsUptoRow, standIns := [], harness := (true, "1f4675b90dbc9376725f51b3108956cfb9affcabffb09d306ff8a99c433199e7"), looks := false }, kinds := [], alts := [], laidByText := true, laidKinds := [.data, .data, .data], laidTests := true, laidLooks := .later }
def MomentReadsUptoCardSaid : Prop := Claim7.holds Tryd.pinned (.plain (OpenSpec.upto momentReadsSpec)) momentReadsUptoCard
end Rows
end Go.Proofs.YthcndiaomkjjpaaDoor
