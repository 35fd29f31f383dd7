/-
  DERIVED. GIVEN WITH THE SEED: THE CARDS: each row of YtlalpnnnnmcejaaDoorRows.lean that lists a variable, with what it lists TIED to the program's text (the seventh form; the later family's looks); each row that meets fmt, with fmt's text TOLD by the authors' own Lean function (tested against real Go, not proved from fmt's source: count such statements apart). THE CARD IS WHAT COUNTS. Prove the row's statement (the work); the ties are given (YtlalpnnnnmcejaaDoorTie.lean); close each card by the builder's one call (the guide's Derived/Test/ToyasCard.lean, 'card_holds'). Laid BY PROGRAM, IN A SANDBOX (cutbox-door.mjs). By AI agents, Wed Nov 11 2026. No macro, syntax, notation, axiom, sorry.
-/
import Derived.Test.YtlalpnnnnmcejaaDoorRows
import GoSem.ClaimSeven
namespace Go.Proofs.YtlalpnnnnmcejaaDoor
namespace Rows

/-- THE TIED CARD OF 'storehouselaw13.UriOrder'. -/
def uriOrderCard : Claim7 := { stood := { row := uriOrderRow, standIns := [], harness := (true, "c4431a4ee58348b33d2e383044a850f28e5a0e4d56799f2bad57232245b9514c"), looks := false }, kinds := [], alts := [], laidByText := true, laidKinds := [.data, .pinned, .pinned], laidTests := true, laidLooks := .later }
def UriOrderCardSaid : Prop := Claim7.holds Tryd.pinned (.plain (OpenSpec.ofChange uriOrderSpec)) uriOrderCard

/-- THE TIED CARD OF 'storehouselaw13.UriBuckets'. -/
def uriBucketsCard : Claim7 := { stood := { row := uriBucketsRow, standIns := [], harness := (true, "c4431a4ee58348b33d2e383044a850f28e5a0e4d56799f2bad57232245b9514c"), looks := false }, kinds := [], alts := [], laidByText := true, laidKinds := [.data, .pinned, .pinned], laidTests := true, laidLooks := .later }
def UriBucketsCardSaid : Prop := Claim7.holds Tryd.pinned (.plain (OpenSpec.ofChange uriBucketsSpec)) uriBucketsCard

/-- THE SECOND FORM's CARD OF 'storehouselaw13.UriOrder'. -/
def uriOrderUptoCard : Claim7 := { stood := { row := uriOrderUptoRow, standIns := [], harness := (true, "c4431a4ee58348b33d2e383044a850f28e5a0e4d56799f2bad57232245b9514c"), looks := false }, kinds := [], alts := [], laidByText := true, laidKinds := [.data, .pinned, .pinned], laidTests := true, laidLooks := .later }
def UriOrderUptoCardSaid : Prop := Claim7.holds Tryd.pinned (.plain (OpenSpec.upto uriOrderSpec)) uriOrderUptoCard

/-- THE SECOND FORM's CARD OF 'storehouselaw13.UriBuckets'. -/
def uriBucketsUptoCard : Claim7 := { stood := { row := uriBucketsUptoRow, standIns := [], harness := (true, "c4431a4ee58348b33d2e383044a850f28e5a0e4d56799f2bad57232245b9514c"), looks := false }, kinds := [], alts := [], laidByText := true, laidKinds := [.data, .pinned, .pinned], laidTests := true, laidLooks := .later }
def UriBucketsUptoCardSaid : Prop := Claim7.holds Tryd.pinned (.plain (OpenSpec.upto uriBucketsSpec)) uriBucketsUptoCard
end Rows
end Go.Proofs.YtlalpnnnnmcejaaDoor
