/-
  DERIVED. GIVEN WITH THE SEED: THE CARDS: each row of YtlhhiiemojhjdaaDoorRows.lean that lists a variable, with what it lists TIED to the program's text (the seventh form; the later family's looks); each row that meets fmt, with fmt's text TOLD by the authors' own Lean function (tested against real Go, not proved from fmt's source: count such statements apart). THE CARD IS WHAT COUNTS. Prove the row's statement (the work); the ties are given (YtlhhiiemojhjdaaDoorTie.lean); close each card by the builder's one call (the guide's Derived/Test/ToyasCard.lean, 'card_holds'). Laid BY PROGRAM, IN A SANDBOX (cutbox-door.mjs). By AI agents, Wed Nov 11 2026. No macro, syntax, notation, axiom, sorry.
-/
import Derived.Test.YtlhhiiemojhjdaaDoorRows
import GoSem.ClaimSeven
namespace Go.Proofs.YtlhhiiemojhjdaaDoor
namespace Rows

/-- THE TIED CARD OF 'storehouselaw18.PolicyMore'. -/
def policyMoreCard : Claim7 := { stood := { row := policyMoreRow, standIns := [], harness := (true, "8920fdf888fa1ac2ddb0e50d92e02fe085c83f0e09a3030db9b6bc8366f20244"), looks := true }, kinds := [], alts := [], laidByText := true, laidKinds := [.data, .pinned], laidTests := true, laidLooks := .later }
def PolicyMoreCardSaid : Prop := Claim7.holds Tryd.pinned (.plain (OpenSpec.ofChange policyMoreSpec)) policyMoreCard

/-- THE TIED CARD OF 'storehouselaw18.PolicyMatches'. -/
def policyMatchesCard : Claim7 := { stood := { row := policyMatchesRow, standIns := [], harness := (true, "8920fdf888fa1ac2ddb0e50d92e02fe085c83f0e09a3030db9b6bc8366f20244"), looks := true }, kinds := [], alts := [], laidByText := true, laidKinds := [.data, .pinned], laidTests := true, laidLooks := .later }
def PolicyMatchesCardSaid : Prop := Claim7.holds Tryd.pinned (.plain (OpenSpec.ofChange policyMatchesSpec)) policyMatchesCard

/-- THE TIED CARD OF 'storehouselaw18.PolicyBlanks'. -/
def policyBlanksCard : Claim7 := { stood := { row := policyBlanksRow, standIns := [], harness := (true, "8920fdf888fa1ac2ddb0e50d92e02fe085c83f0e09a3030db9b6bc8366f20244"), looks := true }, kinds := [], alts := [], laidByText := true, laidKinds := [.data, .pinned], laidTests := true, laidLooks := .later }
def PolicyBlanksCardSaid : Prop := Claim7.holds Tryd.pinned (.plain (OpenSpec.ofChange policyBlanksSpec)) policyBlanksCard

/-- THE TIED CARD OF 'storehouselaw18.PolicyDecides'. -/
def policyDecidesCard : Claim7 := { stood := { row := policyDecidesRow, standIns := [], harness := (true, "8920fdf888fa1ac2ddb0e50d92e02fe085c83f0e09a3030db9b6bc8366f20244"), looks := true }, kinds := [], alts := [], laidByText := true, laidKinds := [.data, .pinned], laidTests := true, laidLooks := .later }
def PolicyDecidesCardSaid : Prop := Claim7.holds Tryd.pinned (.plain (OpenSpec.ofChange policyDecidesSpec)) policyDecidesCard

/-- THE TIED CARD OF 'storehouselaw14.JsonBack'. -/
def jsonBackCard : Claim7 := { stood := { row := jsonBackRow, standIns := [], harness := (true, "8920fdf888fa1ac2ddb0e50d92e02fe085c83f0e09a3030db9b6bc8366f20244"), looks := true }, kinds := [], alts := [], laidByText := true, laidKinds := [.data, .pinned], laidTests := true, laidLooks := .later }
def JsonBackCardSaid : Prop := Claim7.holds Tryd.pinned (.plain (OpenSpec.ofChange jsonBackSpec)) jsonBackCard

/-- THE TIED CARD OF 'storehouselaw14.JsonBlanks'. -/
def jsonBlanksCard : Claim7 := { stood := { row := jsonBlanksRow, standIns := [], harness := (true, "8920fdf888fa1ac2ddb0e50d92e02fe085c83f0e09a3030db9b6bc8366f20244"), looks := true }, kinds := [], alts := [], laidByText := true, laidKinds := [.data, .pinned], laidTests := true, laidLooks := .later }
def JsonBlanksCardSaid : Prop := Claim7.holds Tryd.pinned (.plain (OpenSpec.ofChange jsonBlanksSpec)) jsonBlanksCard

/-- THE TIED CARD OF 'storehouselaw14.JsonWrapped'. -/
def jsonWrappedCard : Claim7 := { stood := { row := jsonWrappedRow, standIns := [], harness := (true, "8920fdf888fa1ac2ddb0e50d92e02fe085c83f0e09a3030db9b6bc8366f20244"), looks := true }, kinds := [], alts := [], laidByText := true, laidKinds := [.data, .pinned], laidTests := true, laidLooks := .later }
def JsonWrappedCardSaid : Prop := Claim7.holds Tryd.pinned (.plain (OpenSpec.ofChange jsonWrappedSpec)) jsonWrappedCard

/-- THE TIED CARD OF 'storehouselaw14.JsonReads'. -/
def jsonReadsCard : Claim7 := { stood := { row := jsonReadsRow, standIns := [], harness := (true, "8920fdf888fa1ac2ddb0e50d92e02fe085c83f0e09a3030db9b6bc8366f20244"), looks := true }, kinds := [], alts := [], laidByText := true, laidKinds := [.data, .pinned], laidTests := true, laidLooks := .later }
def JsonReadsCardSaid : Prop := Claim7.holds Tryd.pinned (.plain (OpenSpec.ofChange jsonReadsSpec)) jsonReadsCard

/-- THE TIED CARD OF 'storehouselaw14.JsonWrites'. -/
def jsonWritesCard : Claim7 := { stood := { row := jsonWritesRow, standIns := [], harness := (true, "8920fdf888fa1ac2ddb0e50d92e02fe085c83f0e09a3030db9b6bc8366f20244"), looks := true }, kinds := [], alts := [], laidByText := true, laidKinds := [.data, .pinned], laidTests := true, laidLooks := .later }
def JsonWritesCardSaid : Prop := Claim7.holds Tryd.pinned (.plain (OpenSpec.ofChange jsonWritesSpec)) jsonWritesCard

/-- THE SECOND FORM's CARD OF 'storehouselaw18.PolicyMore'. -/
def policyMoreUptoCard : Claim7 := { stood := { row := policyMoreUptoRow, standIns := [], harness := (true, "8920fdf888fa1ac2ddb0e50d92e02fe085c83f0e09a3030db9b6bc8366f20244"), looks := true }, kinds := [], alts := [], laidByText := true, laidKinds := [.data, .pinned], laidTests := true, laidLooks := .later }
def PolicyMoreUptoCardSaid : Prop := Claim7.holds Tryd.pinned (.plain (OpenSpec.upto policyMoreSpec)) policyMoreUptoCard

/-- THE SECOND FORM's CARD OF 'storehouselaw18.PolicyMatches'. -/
def policyMatchesUptoCard : Claim7 := { stood := { row := policyMatchesUptoRow, standIns := [], harness := (true, "8920fdf888fa1ac2ddb0e50d92e02fe085c83f0e09a3030db9b6bc8366f20244"), looks := true }, kinds := [], alts := [], laidByText := true, laidKinds := [.data, .pinned], laidTests := true, laidLooks := .later }
def PolicyMatchesUptoCardSaid : Prop := Claim7.holds Tryd.pinned (.plain (OpenSpec.upto policyMatchesSpec)) policyMatchesUptoCard

/-- THE SECOND FORM's CARD OF 'storehouselaw18.PolicyBlanks'. -/
def policyBlanksUptoCard : Claim7 := { stood := { row := policyBlanksUptoRow, standIns := [], harness := (true, "8920fdf888fa1ac2ddb0e50d92e02fe085c83f0e09a3030db9b6bc8366f20244"), looks := true }, kinds := [], alts := [], laidByText := true, laidKinds := [.data, .pinned], laidTests := true, laidLooks := .later }
def PolicyBlanksUptoCardSaid : Prop := Claim7.holds Tryd.pinned (.plain (OpenSpec.upto policyBlanksSpec)) policyBlanksUptoCard

/-- THE SECOND FORM's CARD OF 'storehouselaw18.PolicyDecides'. -/
def policyDecidesUptoCard : Claim7 := { stood := { row := policyDecidesUptoRow, standIns := [], harness := (true, "8920fdf888fa1ac2ddb0e50d92e02fe085c83f0e09a3030db9b6bc8366f20244"), looks := true }, kinds := [], alts := [], laidByText := true, laidKinds := [.data, .pinned], laidTests := true, laidLooks := .later }
def PolicyDecidesUptoCardSaid : Prop := Claim7.holds Tryd.pinned (.plain (OpenSpec.upto policyDecidesSpec)) policyDecidesUptoCard

/-- THE SECOND FORM's CARD OF 'storehouselaw14.JsonBack'. -/
def jsonBackUptoCard : Claim7 := { stood := { row := jsonBackUptoRow, standIns := [], harness := (true, "8920fdf888fa1ac2ddb0e50d92e02fe085c83f0e09a3030db9b6bc8366f20244"), looks := true }, kinds := [], alts := [], laidByText := true, laidKinds := [.data, .pinned], laidTests := true, laidLooks := .later }
def JsonBackUptoCardSaid : Prop := Claim7.holds Tryd.pinned (.plain (OpenSpec.upto jsonBackSpec)) jsonBackUptoCard

/-- THE SECOND FORM's CARD OF 'storehouselaw14.JsonBlanks'. -/
def jsonBlanksUptoCard : Claim7 := { stood := { row := jsonBlanksUptoRow, standIns := [], harness := (true, "8920fdf888fa1ac2ddb0e50d92e02fe085c83f0e09a3030db9b6bc8366f20244"), looks := true }, kinds := [], alts := [], laidByText := true, laidKinds := [.data, .pinned], laidTests := true, laidLooks := .later }
def JsonBlanksUptoCardSaid : Prop := Claim7.holds Tryd.pinned (.plain (OpenSpec.upto jsonBlanksSpec)) jsonBlanksUptoCard

/-- THE SECOND FORM's CARD OF 'storehouselaw14.JsonWrapped'. -/
def jsonWrappedUptoCard : Claim7 := { stood := { row := jsonWrappedUptoRow, standIns := [], harness := (true, "8920fdf888fa1ac2ddb0e50d92e02fe085c83f0e09a3030db9b6bc8366f20244"), looks := true }, kinds := [], alts := [], laidByText := true, laidKinds := [.data, .pinned], laidTests := true, laidLooks := .later }
def JsonWrappedUptoCardSaid : Prop := Claim7.holds Tryd.pinned (.plain (OpenSpec.upto jsonWrappedSpec)) jsonWrappedUptoCard

/-- THE SECOND FORM's CARD OF 'storehouselaw14.JsonReads'. -/
def jsonReadsUptoCard : Claim7 := { stood := { row := jsonReadsUptoRow, standIns := [], harness := (true, "8920fdf888fa1ac2ddb0e50d92e02fe085c83f0e09a3030db9b6bc8366f20244"), looks := true }, kinds := [], alts := [], laidByText := true, laidKinds := [.data, .pinned], laidTests := true, laidLooks := .later }
def JsonReadsUptoCardSaid : Prop := Claim7.holds Tryd.pinned (.plain (OpenSpec.upto jsonReadsSpec)) jsonReadsUptoCard

/-- THE SECOND FORM's CARD OF 'storehouselaw14.JsonWrites'. -/
def jsonWritesUptoCard : Claim7 := { stood := { row := jsonWritesUptoRow, standIns := [], harness := (true, "8920fdf888fa1ac2ddb0e50d92e02fe085c83f0e09a3030db9b6bc8366f20244"), looks := true }, kinds := [], alts := [], laidByText := true, laidKinds := [.data, .pinned], laidTests := true, laidLooks := .later }
def JsonWritesUptoCardSaid : Prop := Claim7.holds Tryd.pinned (.plain (OpenSpec.upto jsonWritesSpec)) jsonWritesUptoCard
end Rows
end Go.Proofs.YtlhhiiemojhjdaaDoor
