/-
  NARROWER THAN 'FOR EVERY INPUT', by the rows' own cells (each row's printed sentence says how): PolicyMore: laid · PolicyMatches: laid · PolicyBlanks: laid · PolicyDecides: laid · JsonBack: loops, laid · JsonBlanks: laid · JsonWrapped: laid · JsonReads: laid · JsonWrites: loops, laid.
  DERIVED. THE GIVEN ROWS OF THIS SEAT. 9 by the template 'for every input the law returns true; each argument reads behind the call as it read before'; 0 by the template 'total and deterministic' (their statements: YtlhhiiemojhjdaaDoorTotals.lean).
  GIVEN WITH THE SEED: the statements are not yours to turn. If you find one false, say at which input.
  Laid BY PROGRAM, IN A SANDBOX (cutbox-rows.mjs): the forced cells as the released guide's own fill.sh prints them over the translation d663a25bfbadbc6d… (all of the seat's roots in one cut). By AI agents, Wed Nov 11 2026. No macro, syntax, notation, axiom, sorry.
-/
import Derived.Test.YtlhhiiemojhjdaaDoorChecked
import GoSem.PinnedTables
import GoSem.Claim
import GoSem.ClaimJoined
import GoSem.ClaimMapViews
import Derived.JoinedTies
import Derived.KernelRfl
namespace Go.Proofs.YtlhhiiemojhjdaaDoor
/- THE CELL 'sum', in the pinned program and in every row, IS THE sha256 OF THE DUMP (.gsa) THAT YtlhhiiemojhjdaaDoorProg.lean LOADS. Nothing in Lean hashes anything: it is a label: what it is worth is what the hold of that sum in a sandbox is worth. -/
noncomputable def Tryd.pinned : Pinned := { name := "ytlhhiiemojhjdaadoor", sum := "d663a25bfbadbc6da975124b202b96aadbfd2067ec60ff593b46de3402f706fb", checked := Tryd.checked }
namespace Rows
def none {H : Type} : Left H := { results := [], args := [] }

/- WHAT THE LISTED PACKAGE-LEVEL VARIABLES READ AS WHEN THE CALL BEGINS. Each datum BY PROGRAM (the guide's laid-datum.mjs) off the statement by which the dump's own 'gosem.cut.vars' lays the variable. In a bare row this is a premise. The card (YtlhhiiemojhjdaaDoorCards.lean) ties it to the program's text. -/
def laid_unicode_utf8_acceptRanges {H : Type} : DataW H := .agg [.agg [.lit (.int .u8 128), .lit (.int .u8 191)], .agg [.lit (.int .u8 160), .lit (.int .u8 191)], .agg [.lit (.int .u8 128), .lit (.int .u8 159)], .agg [.lit (.int .u8 144), .lit (.int .u8 191)], .agg [.lit (.int .u8 128), .lit (.int .u8 143)], .agg [.lit (.int .u8 0), .lit (.int .u8 0)], .agg [.lit (.int .u8 0), .lit (.int .u8 0)], .agg [.lit (.int .u8 0), .lit (.int .u8 0)], .agg [.lit (.int .u8 0), .lit (.int .u8 0)], .agg [.lit (.int .u8 0), .lit (.int .u8 0)], .agg [.lit (.int .u8 0), .lit (.int .u8 0)], .agg [.lit (.int .u8 0), .lit (.int .u8 0)], .agg [.lit (.int .u8 0), .lit (.int .u8 0)], .agg [.lit (.int .u8 0), .lit (.int .u8 0)], .agg [.lit (.int .u8 0), .lit (.int .u8 0)], .agg [.lit (.int .u8 0), .lit (.int .u8 0)]]
/-- One of Go's own tables, pinned by name: the form's constant. -/
def laid_unicode_utf8_first : DataW Unit := Go.Pinned.utf8First

/-- 'storehouselaw18.PolicyMore': WHATEVER THE INPUT: true; the input reads as it did. -/
def policyMoreSpec : ChangeSpec := { name := "policyMore", fn := fun _ => fun
  | [d1, d2, d3, d4, d5] => { results := [.lit (.bool true)], args := [d1, d2, d3, d4, d5] }
  | _ => none }
def policyMoreRow : OpenClaim := { program := "ytlhhiiemojhjdaadoor", sum := "d663a25bfbadbc6da975124b202b96aadbfd2067ec60ff593b46de3402f706fb", func := "storehouse/storehouselaw18.PolicyMore", spec := "policyMore", inPlace := ["internal/bytealg.IndexByteString", "internal/bytealg.IndexString", "internal/abi.NoEscape", "internal/reflectlite.TypeOf"], unfollowed := true, recurses := true, named := ["unicode/utf8.first", "unicode/utf8.acceptRanges", "internal/bytealg.MaxLen"], apart := false, laid := [("unicode/utf8.acceptRanges", laid_unicode_utf8_acceptRanges), ("unicode/utf8.first", laid_unicode_utf8_first)] }
def PolicyMoreSaid : Prop := policyMoreRow.holds Tryd.pinned (OpenSpec.ofChange policyMoreSpec)

/-- ITS FALSE NEIGHBOUR: 'it returns false'. Refute it at one input. -/
def policyMoreWrong : ChangeSpec := { name := "policyMore", fn := fun _ => fun
  | [d1, d2, d3, d4, d5] => { results := [.lit (.bool false)], args := [d1, d2, d3, d4, d5] }
  | _ => none }
def PolicyMoreWrongFalsely : Prop := policyMoreRow.holds Tryd.pinned (OpenSpec.ofChange policyMoreWrong)

/-- 'storehouselaw18.PolicyMatches': WHATEVER THE INPUT: true; the input reads as it did. -/
def policyMatchesSpec : ChangeSpec := { name := "policyMatches", fn := fun _ => fun
  | [d1, d2, d3, d4] => { results := [.lit (.bool true)], args := [d1, d2, d3, d4] }
  | _ => none }
def policyMatchesRow : OpenClaim := { program := "ytlhhiiemojhjdaadoor", sum := "d663a25bfbadbc6da975124b202b96aadbfd2067ec60ff593b46de3402f706fb", func := "storehouse/storehouselaw18.PolicyMatches", spec := "policyMatches", inPlace := ["internal/bytealg.IndexByteString", "internal/bytealg.IndexString", "internal/abi.NoEscape", "internal/reflectlite.TypeOf"], unfollowed := true, recurses := true, named := ["unicode/utf8.first", "unicode/utf8.acceptRanges", "internal/bytealg.MaxLen"], apart := false, laid := [("unicode/utf8.acceptRanges", laid_unicode_utf8_acceptRanges), ("unicode/utf8.first", laid_unicode_utf8_first)] }
def PolicyMatchesSaid : Prop := policyMatchesRow.holds Tryd.pinned (OpenSpec.ofChange policyMatchesSpec)

/-- ITS FALSE NEIGHBOUR: 'it returns false'. Refute it at one input. -/
def policyMatchesWrong : ChangeSpec := { name := "policyMatches", fn := fun _ => fun
  | [d1, d2, d3, d4] => { results := [.lit (.bool false)], args := [d1, d2, d3, d4] }
  | _ => none }
def PolicyMatchesWrongFalsely : Prop := policyMatchesRow.holds Tryd.pinned (OpenSpec.ofChange policyMatchesWrong)

/-- 'storehouselaw18.PolicyBlanks': WHATEVER THE INPUT: true; the input reads as it did. -/
def policyBlanksSpec : ChangeSpec := { name := "policyBlanks", fn := fun _ => fun
  | [d] => { results := [.lit (.bool true)], args := [d] }
  | _ => none }
def policyBlanksRow : OpenClaim := { program := "ytlhhiiemojhjdaadoor", sum := "d663a25bfbadbc6da975124b202b96aadbfd2067ec60ff593b46de3402f706fb", func := "storehouse/storehouselaw18.PolicyBlanks", spec := "policyBlanks", inPlace := ["internal/bytealg.IndexByteString", "internal/bytealg.IndexString", "internal/abi.NoEscape", "internal/reflectlite.TypeOf"], unfollowed := true, recurses := true, named := ["unicode/utf8.first", "unicode/utf8.acceptRanges", "internal/bytealg.MaxLen"], apart := false, laid := [("unicode/utf8.acceptRanges", laid_unicode_utf8_acceptRanges), ("unicode/utf8.first", laid_unicode_utf8_first)] }
def PolicyBlanksSaid : Prop := policyBlanksRow.holds Tryd.pinned (OpenSpec.ofChange policyBlanksSpec)

/-- ITS FALSE NEIGHBOUR: 'it returns false'. Refute it at one input. -/
def policyBlanksWrong : ChangeSpec := { name := "policyBlanks", fn := fun _ => fun
  | [d] => { results := [.lit (.bool false)], args := [d] }
  | _ => none }
def PolicyBlanksWrongFalsely : Prop := policyBlanksRow.holds Tryd.pinned (OpenSpec.ofChange policyBlanksWrong)

/-- 'storehouselaw18.PolicyDecides': WHATEVER THE INPUT: true; the input reads as it did. -/
def policyDecidesSpec : ChangeSpec := { name := "policyDecides", fn := fun _ => fun
  | [d1, d2, d3, d4] => { results := [.lit (.bool true)], args := [d1, d2, d3, d4] }
  | _ => none }
def policyDecidesRow : OpenClaim := { program := "ytlhhiiemojhjdaadoor", sum := "d663a25bfbadbc6da975124b202b96aadbfd2067ec60ff593b46de3402f706fb", func := "storehouse/storehouselaw18.PolicyDecides", spec := "policyDecides", inPlace := ["internal/bytealg.IndexByteString", "internal/bytealg.IndexString", "internal/abi.NoEscape", "internal/reflectlite.TypeOf"], unfollowed := true, recurses := true, named := ["unicode/utf8.first", "unicode/utf8.acceptRanges", "internal/bytealg.MaxLen"], apart := false, laid := [("unicode/utf8.acceptRanges", laid_unicode_utf8_acceptRanges), ("unicode/utf8.first", laid_unicode_utf8_first)] }
def PolicyDecidesSaid : Prop := policyDecidesRow.holds Tryd.pinned (OpenSpec.ofChange policyDecidesSpec)

/-- ITS FALSE NEIGHBOUR: 'it returns false'. Refute it at one input. -/
def policyDecidesWrong : ChangeSpec := { name := "policyDecides", fn := fun _ => fun
  | [d1, d2, d3, d4] => { results := [.lit (.bool false)], args := [d1, d2, d3, d4] }
  | _ => none }
def PolicyDecidesWrongFalsely : Prop := policyDecidesRow.holds Tryd.pinned (OpenSpec.ofChange policyDecidesWrong)

/-- 'storehouselaw14.JsonBack': WHATEVER THE INPUT: true; the input reads as it did. -/
def jsonBackSpec : ChangeSpec := { name := "jsonBack", fn := fun _ => fun
  | [d1, d2] => { results := [.lit (.bool true)], args := [d1, d2] }
  | _ => none }
def jsonBackRow : OpenClaim := { program := "ytlhhiiemojhjdaadoor", sum := "d663a25bfbadbc6da975124b202b96aadbfd2067ec60ff593b46de3402f706fb", func := "storehouse/storehouselaw14.JsonBack", spec := "jsonBack", inPlace := ["internal/bytealg.IndexByteString", "internal/bytealg.IndexString", "internal/abi.NoEscape"], unfollowed := true, recurses := true, named := ["unicode/utf8.first", "unicode/utf8.acceptRanges", "internal/bytealg.MaxLen"], loops := true, apart := false, laid := [("unicode/utf8.acceptRanges", laid_unicode_utf8_acceptRanges), ("unicode/utf8.first", laid_unicode_utf8_first)] }
def JsonBackSaid : Prop := jsonBackRow.holds Tryd.pinned (OpenSpec.ofChange jsonBackSpec)

/-- ITS FALSE NEIGHBOUR: 'it returns false'. Refute it at one input. -/
def jsonBackWrong : ChangeSpec := { name := "jsonBack", fn := fun _ => fun
  | [d1, d2] => { results := [.lit (.bool false)], args := [d1, d2] }
  | _ => none }
def JsonBackWrongFalsely : Prop := jsonBackRow.holds Tryd.pinned (OpenSpec.ofChange jsonBackWrong)

/-- 'storehouselaw14.JsonBlanks': WHATEVER THE INPUT: true; the input reads as it did. -/
def jsonBlanksSpec : ChangeSpec := { name := "jsonBlanks", fn := fun _ => fun
  | [d1, d2] => { results := [.lit (.bool true)], args := [d1, d2] }
  | _ => none }
def jsonBlanksRow : OpenClaim := { program := "ytlhhiiemojhjdaadoor", sum := "d663a25bfbadbc6da975124b202b96aadbfd2067ec60ff593b46de3402f706fb", func := "storehouse/storehouselaw14.JsonBlanks", spec := "jsonBlanks", inPlace := ["internal/bytealg.IndexByteString", "internal/bytealg.IndexString", "internal/abi.NoEscape"], unfollowed := true, recurses := true, named := ["unicode/utf8.first", "unicode/utf8.acceptRanges", "internal/bytealg.MaxLen"], apart := false, laid := [("unicode/utf8.acceptRanges", laid_unicode_utf8_acceptRanges), ("unicode/utf8.first", laid_unicode_utf8_first)] }
def JsonBlanksSaid : Prop := jsonBlanksRow.holds Tryd.pinned (OpenSpec.ofChange jsonBlanksSpec)

/-- ITS FALSE NEIGHBOUR: 'it returns false'. Refute it at one input. -/
def jsonBlanksWrong : ChangeSpec := { name := "jsonBlanks", fn := fun _ => fun
  | [d1, d2] => { results := [.lit (.bool false)], args := [d1, d2] }
  | _ => none }
def JsonBlanksWrongFalsely : Prop := jsonBlanksRow.holds Tryd.pinned (OpenSpec.ofChange jsonBlanksWrong)

/-- 'storehouselaw14.JsonWrapped': WHATEVER THE INPUT: true; the input reads as it did. -/
def jsonWrappedSpec : ChangeSpec := { name := "jsonWrapped", fn := fun _ => fun
  | [d] => { results := [.lit (.bool true)], args := [d] }
  | _ => none }
def jsonWrappedRow : OpenClaim := { program := "ytlhhiiemojhjdaadoor", sum := "d663a25bfbadbc6da975124b202b96aadbfd2067ec60ff593b46de3402f706fb", func := "storehouse/storehouselaw14.JsonWrapped", spec := "jsonWrapped", inPlace := ["internal/bytealg.IndexByteString", "internal/bytealg.IndexString", "internal/abi.NoEscape"], unfollowed := true, recurses := true, named := ["unicode/utf8.first", "unicode/utf8.acceptRanges", "internal/bytealg.MaxLen"], apart := false, laid := [("unicode/utf8.acceptRanges", laid_unicode_utf8_acceptRanges), ("unicode/utf8.first", laid_unicode_utf8_first)] }
def JsonWrappedSaid : Prop := jsonWrappedRow.holds Tryd.pinned (OpenSpec.ofChange jsonWrappedSpec)

/-- ITS FALSE NEIGHBOUR: 'it returns false'. Refute it at one input. -/
def jsonWrappedWrong : ChangeSpec := { name := "jsonWrapped", fn := fun _ => fun
  | [d] => { results := [.lit (.bool false)], args := [d] }
  | _ => none }
def JsonWrappedWrongFalsely : Prop := jsonWrappedRow.holds Tryd.pinned (OpenSpec.ofChange jsonWrappedWrong)

/-- 'storehouselaw14.JsonReads': WHATEVER THE INPUT: true; the input reads as it did. -/
def jsonReadsSpec : ChangeSpec := { name := "jsonReads", fn := fun _ => fun
  | [d] => { results := [.lit (.bool true)], args := [d] }
  | _ => none }
def jsonReadsRow : OpenClaim := { program := "ytlhhiiemojhjdaadoor", sum := "d663a25bfbadbc6da975124b202b96aadbfd2067ec60ff593b46de3402f706fb", func := "storehouse/storehouselaw14.JsonReads", spec := "jsonReads", inPlace := ["internal/bytealg.IndexByteString", "internal/bytealg.IndexString", "internal/abi.NoEscape"], unfollowed := true, recurses := true, named := ["unicode/utf8.first", "unicode/utf8.acceptRanges", "internal/bytealg.MaxLen"], apart := false, laid := [("unicode/utf8.acceptRanges", laid_unicode_utf8_acceptRanges), ("unicode/utf8.first", laid_unicode_utf8_first)] }
def JsonReadsSaid : Prop := jsonReadsRow.holds Tryd.pinned (OpenSpec.ofChange jsonReadsSpec)

/-- ITS FALSE NEIGHBOUR: 'it returns false'. Refute it at one input. -/
def jsonReadsWrong : ChangeSpec := { name := "jsonReads", fn := fun _ => fun
  | [d] => { results := [.lit (.bool false)], args := [d] }
  | _ => none }
def JsonReadsWrongFalsely : Prop := jsonReadsRow.holds Tryd.pinned (OpenSpec.ofChange jsonReadsWrong)

/-- 'storehouselaw14.JsonWrites': WHATEVER THE INPUT: true; the input reads as it did. -/
def jsonWritesSpec : ChangeSpec := { name := "jsonWrites", fn := fun _ => fun
  | [d1, d2, d3] => { results := [.lit (.bool true)], args := [d1, d2, d3] }
  | _ => none }
def jsonWritesRow : OpenClaim := { program := "ytlhhiiemojhjdaadoor", sum := "d663a25bfbadbc6da975124b202b96aadbfd2067ec60ff593b46de3402f706fb", func := "storehouse/storehouselaw14.JsonWrites", spec := "jsonWrites", inPlace := ["internal/bytealg.IndexByteString", "internal/bytealg.IndexString", "internal/abi.NoEscape"], unfollowed := true, recurses := true, named := ["unicode/utf8.first", "unicode/utf8.acceptRanges", "internal/bytealg.MaxLen"], loops := true, apart := false, laid := [("unicode/utf8.acceptRanges", laid_unicode_utf8_acceptRanges), ("unicode/utf8.first", laid_unicode_utf8_first)] }
def JsonWritesSaid : Prop := jsonWritesRow.holds Tryd.pinned (OpenSpec.ofChange jsonWritesSpec)

/-- ITS FALSE NEIGHBOUR: 'it returns false'. Refute it at one input. -/
def jsonWritesWrong : ChangeSpec := { name := "jsonWrites", fn := fun _ => fun
  | [d1, d2, d3] => { results := [.lit (.bool false)], args := [d1, d2, d3] }
  | _ => none }
def JsonWritesWrongFalsely : Prop := jsonWritesRow.holds Tryd.pinned (OpenSpec.ofChange jsonWritesWrong)

/- THE SECOND FORM. 'bulk': how many values and letters a reading holds, each counted each time it is reached (what is shared counts as often as it is met; a slice's spare places count too). A statement '..UptoSaid' is the law's where the arguments, and the package variables that the reading takes, are together of bulk at most 1048576: NARROWER than '..Said'. Prove '..Said' where nothing that the law and all that it calls make is longer than what came in: it says more and counts as full. Else prove '..UptoSaid'. A law counts once. -/
mutual
def uptoBulk {H : Type} : DataW H → Nat
  | .lit (.string bytes) => bytes.length + 1
  | .lit _ => 1
  | .nil => 1
  | .ptr d => uptoBulk d + 1
  | .slice elems spare => uptoBulkAll elems + uptoBulkAll spare + 1
  | .agg parts => uptoBulkAll parts + 1
  | .iface _ d => uptoBulk d + 1
  | .map entries => uptoBulkEntries entries + 1
  | .held _ => 1
def uptoBulkAll {H : Type} : List (DataW H) → Nat
  | [] => 0
  | d :: r => uptoBulk d + uptoBulkAll r
def uptoBulkEntries {H : Type} : List (Lit × DataW H) → Nat
  | [] => 0
  | x :: r => uptoBulkEntry x + uptoBulkEntries r
def uptoBulkEntry {H : Type} : Lit × DataW H → Nat
  | (.string bytes, d) => bytes.length + uptoBulk d + 1
  | (_, d) => uptoBulk d + 1
 end
def uptoSmall : (H : Type) → List (DataW H) → Bool := fun _ ds => decide (uptoBulkAll ds ≤ 1048576)
def OpenSpec.upto (s : _root_.Go.ChangeSpec) : _root_.Go.OpenSpec := { _root_.Go.OpenSpec.ofChange s with cond := some uptoSmall }

/-- 'storehouselaw18.PolicyMore', WHERE WHAT IT READS IS OF BULK AT MOST 1048576: true; the input reads as it did. -/
def policyMoreUptoRow : OpenClaim := { program := "ytlhhiiemojhjdaadoor", sum := "d663a25bfbadbc6da975124b202b96aadbfd2067ec60ff593b46de3402f706fb", func := "storehouse/storehouselaw18.PolicyMore", spec := "policyMore", inPlace := ["internal/bytealg.IndexByteString", "internal/bytealg.IndexString", "internal/abi.NoEscape", "internal/reflectlite.TypeOf"], unfollowed := true, recurses := true, named := ["unicode/utf8.first", "unicode/utf8.acceptRanges", "internal/bytealg.MaxLen"], apart := false, laid := [("unicode/utf8.acceptRanges", laid_unicode_utf8_acceptRanges), ("unicode/utf8.first", laid_unicode_utf8_first)], narrowed := true }
def PolicyMoreUptoSaid : Prop := policyMoreUptoRow.holds Tryd.pinned (OpenSpec.upto policyMoreSpec)

/-- 'storehouselaw18.PolicyMatches', WHERE WHAT IT READS IS OF BULK AT MOST 1048576: true; the input reads as it did. -/
def policyMatchesUptoRow : OpenClaim := { program := "ytlhhiiemojhjdaadoor", sum := "d663a25bfbadbc6da975124b202b96aadbfd2067ec60ff593b46de3402f706fb", func := "storehouse/storehouselaw18.PolicyMatches", spec := "policyMatches", inPlace := ["internal/bytealg.IndexByteString", "internal/bytealg.IndexString", "internal/abi.NoEscape", "internal/reflectlite.TypeOf"], unfollowed := true, recurses := true, named := ["unicode/utf8.first", "unicode/utf8.acceptRanges", "internal/bytealg.MaxLen"], apart := false, laid := [("unicode/utf8.acceptRanges", laid_unicode_utf8_acceptRanges), ("unicode/utf8.first", laid_unicode_utf8_first)], narrowed := true }
def PolicyMatchesUptoSaid : Prop := policyMatchesUptoRow.holds Tryd.pinned (OpenSpec.upto policyMatchesSpec)

/-- 'storehouselaw18.PolicyBlanks', WHERE WHAT IT READS IS OF BULK AT MOST 1048576: true; the input reads as it did. -/
def policyBlanksUptoRow : OpenClaim := { program := "ytlhhiiemojhjdaadoor", sum := "d663a25bfbadbc6da975124b202b96aadbfd2067ec60ff593b46de3402f706fb", func := "storehouse/storehouselaw18.PolicyBlanks", spec := "policyBlanks", inPlace := ["internal/bytealg.IndexByteString", "internal/bytealg.IndexString", "internal/abi.NoEscape", "internal/reflectlite.TypeOf"], unfollowed := true, recurses := true, named := ["unicode/utf8.first", "unicode/utf8.acceptRanges", "internal/bytealg.MaxLen"], apart := false, laid := [("unicode/utf8.acceptRanges", laid_unicode_utf8_acceptRanges), ("unicode/utf8.first", laid_unicode_utf8_first)], narrowed := true }
def PolicyBlanksUptoSaid : Prop := policyBlanksUptoRow.holds Tryd.pinned (OpenSpec.upto policyBlanksSpec)

/-- 'storehouselaw18.PolicyDecides', WHERE WHAT IT READS IS OF BULK AT MOST 1048576: true; the input reads as it did. -/
def policyDecidesUptoRow : OpenClaim := { program := "ytlhhiiemojhjdaadoor", sum := "d663a25bfbadbc6da975124b202b96aadbfd2067ec60ff593b46de3402f706fb", func := "storehouse/storehouselaw18.PolicyDecides", spec := "policyDecides", inPlace := ["internal/bytealg.IndexByteString", "internal/bytealg.IndexString", "internal/abi.NoEscape", "internal/reflectlite.TypeOf"], unfollowed := true, recurses := true, named := ["unicode/utf8.first", "unicode/utf8.acceptRanges", "internal/bytealg.MaxLen"], apart := false, laid := [("unicode/utf8.acceptRanges", laid_unicode_utf8_acceptRanges), ("unicode/utf8.first", laid_unicode_utf8_first)], narrowed := true }
def PolicyDecidesUptoSaid : Prop := policyDecidesUptoRow.holds Tryd.pinned (OpenSpec.upto policyDecidesSpec)

/-- 'storehouselaw14.JsonBack', WHERE WHAT IT READS IS OF BULK AT MOST 1048576: true; the input reads as it did. -/
def jsonBackUptoRow : OpenClaim := { program := "ytlhhiiemojhjdaadoor", sum := "d663a25bfbadbc6da975124b202b96aadbfd2067ec60ff593b46de3402f706fb", func := "storehouse/storehouselaw14.JsonBack", spec := "jsonBack", inPlace := ["internal/bytealg.IndexByteString", "internal/bytealg.IndexString", "internal/abi.NoEscape"], unfollowed := true, recurses := true, named := ["unicode/utf8.first", "unicode/utf8.acceptRanges", "internal/bytealg.MaxLen"], loops := true, apart := false, laid := [("unicode/utf8.acceptRanges", laid_unicode_utf8_acceptRanges), ("unicode/utf8.first", laid_unicode_utf8_first)], narrowed := true }
def JsonBackUptoSaid : Prop := jsonBackUptoRow.holds Tryd.pinned (OpenSpec.upto jsonBackSpec)

/-- 'storehouselaw14.JsonBlanks', WHERE WHAT IT READS IS OF BULK AT MOST 1048576: true; the input reads as it did. -/
def jsonBlanksUptoRow : OpenClaim := { program := "ytlhhiiemojhjdaadoor", sum := "d663a25bfbadbc6da975124b202b96aadbfd2067ec60ff593b46de3402f706fb", func := "storehouse/storehouselaw14.JsonBlanks", spec := "jsonBlanks", inPlace := ["internal/bytealg.IndexByteString", "internal/bytealg.IndexString", "internal/abi.NoEscape"], unfollowed := true, recurses := true, named := ["unicode/utf8.first", "unicode/utf8.acceptRanges", "internal/bytealg.MaxLen"], apart := false, laid := [("unicode/utf8.acceptRanges", laid_unicode_utf8_acceptRanges), ("unicode/utf8.first", laid_unicode_utf8_first)], narrowed := true }
def JsonBlanksUptoSaid : Prop := jsonBlanksUptoRow.holds Tryd.pinned (OpenSpec.upto jsonBlanksSpec)

/-- 'storehouselaw14.JsonWrapped', WHERE WHAT IT READS IS OF BULK AT MOST 1048576: true; the input reads as it did. -/
def jsonWrappedUptoRow : OpenClaim := { program := "ytlhhiiemojhjdaadoor", sum := "d663a25bfbadbc6da975124b202b96aadbfd2067ec60ff593b46de3402f706fb", func := "storehouse/storehouselaw14.JsonWrapped", spec := "jsonWrapped", inPlace := ["internal/bytealg.IndexByteString", "internal/bytealg.IndexString", "internal/abi.NoEscape"], unfollowed := true, recurses := true, named := ["unicode/utf8.first", "unicode/utf8.acceptRanges", "internal/bytealg.MaxLen"], apart := false, laid := [("unicode/utf8.acceptRanges", laid_unicode_utf8_acceptRanges), ("unicode/utf8.first", laid_unicode_utf8_first)], narrowed := true }
def JsonWrappedUptoSaid : Prop := jsonWrappedUptoRow.holds Tryd.pinned (OpenSpec.upto jsonWrappedSpec)

/-- 'storehouselaw14.JsonReads', WHERE WHAT IT READS IS OF BULK AT MOST 1048576: true; the input reads as it did. -/
def jsonReadsUptoRow : OpenClaim := { program := "ytlhhiiemojhjdaadoor", sum := "d663a25bfbadbc6da975124b202b96aadbfd2067ec60ff593b46de3402f706fb", func := "storehouse/storehouselaw14.JsonReads", spec := "jsonReads", inPlace := ["internal/bytealg.IndexByteString", "internal/bytealg.IndexString", "internal/abi.NoEscape"], unfollowed := true, recurses := true, named := ["unicode/utf8.first", "unicode/utf8.acceptRanges", "internal/bytealg.MaxLen"], apart := false, laid := [("unicode/utf8.acceptRanges", laid_unicode_utf8_acceptRanges), ("unicode/utf8.first", laid_unicode_utf8_first)], narrowed := true }
def JsonReadsUptoSaid : Prop := jsonReadsUptoRow.holds Tryd.pinned (OpenSpec.upto jsonReadsSpec)

/-- 'storehouselaw14.JsonWrites', WHERE WHAT IT READS IS OF BULK AT MOST 1048576: true; the input reads as it did. -/
def jsonWritesUptoRow : OpenClaim := { program := "ytlhhiiemojhjdaadoor", sum := "d663a25bfbadbc6da975124b202b96aadbfd2067ec60ff593b46de3402f706fb", func := "storehouse/storehouselaw14.JsonWrites", spec := "jsonWrites", inPlace := ["internal/bytealg.IndexByteString", "internal/bytealg.IndexString", "internal/abi.NoEscape"], unfollowed := true, recurses := true, named := ["unicode/utf8.first", "unicode/utf8.acceptRanges", "internal/bytealg.MaxLen"], loops := true, apart := false, laid := [("unicode/utf8.acceptRanges", laid_unicode_utf8_acceptRanges), ("unicode/utf8.first", laid_unicode_utf8_first)], narrowed := true }
def JsonWritesUptoSaid : Prop := jsonWritesUptoRow.holds Tryd.pinned (OpenSpec.upto jsonWritesSpec)

end Rows
end Go.Proofs.YtlhhiiemojhjdaaDoor
