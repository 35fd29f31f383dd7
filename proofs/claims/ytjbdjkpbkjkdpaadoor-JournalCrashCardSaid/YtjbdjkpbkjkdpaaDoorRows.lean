/-
  NARROWER THAN 'FOR EVERY INPUT', by the rows' own cells (each row's printed sentence says how): JournalTwo: laid · JournalAnew: laid · JournalLooks: laid · JournalCrash: laid · JournalResets: laid.
  DERIVED. THE GIVEN ROWS OF THIS SEAT. 5 by the template 'for every input the law returns true; each argument reads behind the call as it read before'; 0 by the template 'total and deterministic' (their statements: YtjbdjkpbkjkdpaaDoorTotals.lean).
  GIVEN WITH THE SEED: the statements are not yours to turn. If you find one false, say at which input.
  Laid BY PROGRAM, IN A SANDBOX (cutbox-rows.mjs): the forced cells as the released guide's own fill.sh prints them over the translation 86fdc1bf8f01f805… (all of the seat's roots in one cut). By AI agents, Wed Nov 11 2026. No macro, syntax, notation, axiom, sorry.
-/
import Derived.Test.YtjbdjkpbkjkdpaaDoorChecked
import GoSem.Claim
import GoSem.ClaimJoined
import GoSem.ClaimMapViews
import Derived.JoinedTies
import Derived.KernelRfl
namespace Go.Proofs.YtjbdjkpbkjkdpaaDoor
/- THE CELL 'sum', in the pinned program and in every row, IS THE sha256 OF THE DUMP (.gsa) THAT YtjbdjkpbkjkdpaaDoorProg.lean LOADS. Nothing in Lean hashes anything: it is a label: what it is worth is what the hold of that sum in a sandbox is worth. -/
noncomputable def Tryd.pinned : Pinned := { name := "ytjbdjkpbkjkdpaadoor", sum := "86fdc1bf8f01f8050b414e4c9273a1fbfcdd5e32563a1ed08de22baf3a609ec3", checked := Tryd.checked }
namespace Rows
def none {H : Type} : Left H := { results := [], args := [] }

/- WHAT THE LISTED PACKAGE-LEVEL VARIABLES READ AS WHEN THE CALL BEGINS. Each datum BY PROGRAM (the guide's laid-datum.mjs) off the statement by which the dump's own 'gosem.cut.vars' lays the variable. In a bare row this is a premise. The card (YtjbdjkpbkjkdpaaDoorCards.lean) ties it to the program's text. -/
def laid_errors_errorType {H : Type} : DataW H := .iface "internal/reflectlite.rtype" (.agg [.ptr (.lit (.string [101, 114, 114, 111, 114]))])

/-- 'storehouselaw04.JournalTwo': WHATEVER THE INPUT: true; the input reads as it did. -/
def journalTwoSpec : ChangeSpec := { name := "journalTwo", fn := fun _ => fun
  | [d1, d2] => { results := [.lit (.bool true)], args := [d1, d2] }
  | _ => none }
def journalTwoRow : OpenClaim := { program := "ytjbdjkpbkjkdpaadoor", sum := "86fdc1bf8f01f8050b414e4c9273a1fbfcdd5e32563a1ed08de22baf3a609ec3", func := "storehouse/storehouselaw04.JournalTwo", spec := "journalTwo", inPlace := ["internal/reflectlite.ValueOf", "(internal/reflectlite.Value).Type", "(internal/reflectlite.Value).IsNil", "internal/reflectlite.TypeOf", "(internal/reflectlite.Value).Elem", "(internal/reflectlite.Value).Set", "internal/abi.NoEscape", "internal/bytealg.MakeNoZero"], unfollowed := true, recurses := true, named := ["errors.errorType"], apart := false, laid := [("errors.errorType", laid_errors_errorType)] }
def JournalTwoSaid : Prop := journalTwoRow.holds Tryd.pinned (OpenSpec.ofChange journalTwoSpec)

/-- ITS FALSE NEIGHBOUR: 'it returns false'. Refute it at one input. -/
def journalTwoWrong : ChangeSpec := { name := "journalTwo", fn := fun _ => fun
  | [d1, d2] => { results := [.lit (.bool false)], args := [d1, d2] }
  | _ => none }
def JournalTwoWrongFalsely : Prop := journalTwoRow.holds Tryd.pinned (OpenSpec.ofChange journalTwoWrong)

/-- 'storehouselaw04.JournalAnew': WHATEVER THE INPUT: true; the input reads as it did. -/
def journalAnewSpec : ChangeSpec := { name := "journalAnew", fn := fun _ => fun
  | [d1, d2] => { results := [.lit (.bool true)], args := [d1, d2] }
  | _ => none }
def journalAnewRow : OpenClaim := { program := "ytjbdjkpbkjkdpaadoor", sum := "86fdc1bf8f01f8050b414e4c9273a1fbfcdd5e32563a1ed08de22baf3a609ec3", func := "storehouse/storehouselaw04.JournalAnew", spec := "journalAnew", inPlace := ["internal/reflectlite.ValueOf", "(internal/reflectlite.Value).Type", "(internal/reflectlite.Value).IsNil", "internal/reflectlite.TypeOf", "(internal/reflectlite.Value).Elem", "(internal/reflectlite.Value).Set", "internal/abi.NoEscape", "internal/bytealg.MakeNoZero"], unfollowed := true, recurses := true, named := ["errors.errorType"], apart := false, laid := [("errors.errorType", laid_errors_errorType)] }
def JournalAnewSaid : Prop := journalAnewRow.holds Tryd.pinned (OpenSpec.ofChange journalAnewSpec)

/-- ITS FALSE NEIGHBOUR: 'it returns false'. Refute it at one input. -/
def journalAnewWrong : ChangeSpec := { name := "journalAnew", fn := fun _ => fun
  | [d1, d2] => { results := [.lit (.bool false)], args := [d1, d2] }
  | _ => none }
def JournalAnewWrongFalsely : Prop := journalAnewRow.holds Tryd.pinned (OpenSpec.ofChange journalAnewWrong)

/-- 'storehouselaw04.JournalLooks': WHATEVER THE INPUT: true; the input reads as it did. -/
def journalLooksSpec : ChangeSpec := { name := "journalLooks", fn := fun _ => fun
  | [d1, d2, d3, d4, d5, d6] => { results := [.lit (.bool true)], args := [d1, d2, d3, d4, d5, d6] }
  | _ => none }
def journalLooksRow : OpenClaim := { program := "ytjbdjkpbkjkdpaadoor", sum := "86fdc1bf8f01f8050b414e4c9273a1fbfcdd5e32563a1ed08de22baf3a609ec3", func := "storehouse/storehouselaw04.JournalLooks", spec := "journalLooks", inPlace := ["internal/reflectlite.ValueOf", "(internal/reflectlite.Value).Type", "(internal/reflectlite.Value).IsNil", "internal/reflectlite.TypeOf", "(internal/reflectlite.Value).Elem", "(internal/reflectlite.Value).Set", "internal/abi.NoEscape", "internal/bytealg.MakeNoZero"], unfollowed := true, recurses := true, named := ["errors.errorType"], apart := false, laid := [("errors.errorType", laid_errors_errorType)] }
def JournalLooksSaid : Prop := journalLooksRow.holds Tryd.pinned (OpenSpec.ofChange journalLooksSpec)

/-- ITS FALSE NEIGHBOUR: 'it returns false'. Refute it at one input. -/
def journalLooksWrong : ChangeSpec := { name := "journalLooks", fn := fun _ => fun
  | [d1, d2, d3, d4, d5, d6] => { results := [.lit (.bool false)], args := [d1, d2, d3, d4, d5, d6] }
  | _ => none }
def JournalLooksWrongFalsely : Prop := journalLooksRow.holds Tryd.pinned (OpenSpec.ofChange journalLooksWrong)

/-- 'storehouselaw04.JournalCrash': WHATEVER THE INPUT: true; the input reads as it did. -/
def journalCrashSpec : ChangeSpec := { name := "journalCrash", fn := fun _ => fun
  | [d1, d2, d3, d4, d5] => { results := [.lit (.bool true)], args := [d1, d2, d3, d4, d5] }
  | _ => none }
def journalCrashRow : OpenClaim := { program := "ytjbdjkpbkjkdpaadoor", sum := "86fdc1bf8f01f8050b414e4c9273a1fbfcdd5e32563a1ed08de22baf3a609ec3", func := "storehouse/storehouselaw04.JournalCrash", spec := "journalCrash", inPlace := ["internal/reflectlite.ValueOf", "(internal/reflectlite.Value).Type", "(internal/reflectlite.Value).IsNil", "internal/reflectlite.TypeOf", "(internal/reflectlite.Value).Elem", "(internal/reflectlite.Value).Set", "internal/abi.NoEscape", "internal/bytealg.MakeNoZero"], unfollowed := true, recurses := true, named := ["errors.errorType"], apart := false, laid := [("errors.errorType", laid_errors_errorType)] }
def JournalCrashSaid : Prop := journalCrashRow.holds Tryd.pinned (OpenSpec.ofChange journalCrashSpec)

/-- ITS FALSE NEIGHBOUR: 'it returns false'. Refute it at one input. -/
def journalCrashWrong : ChangeSpec := { name := "journalCrash", fn := fun _ => fun
  | [d1, d2, d3, d4, d5] => { results := [.lit (.bool false)], args := [d1, d2, d3, d4, d5] }
  | _ => none }
def JournalCrashWrongFalsely : Prop := journalCrashRow.holds Tryd.pinned (OpenSpec.ofChange journalCrashWrong)

/-- 'storehouselaw04.JournalResets': WHATEVER THE INPUT: true; the input reads as it did. -/
def journalResetsSpec : ChangeSpec := { name := "journalResets", fn := fun _ => fun
  | [d1, d2, d3, d4, d5] => { results := [.lit (.bool true)], args := [d1, d2, d3, d4, d5] }
  | _ => none }
def journalResetsRow : OpenClaim := { program := "ytjbdjkpbkjkdpaadoor", sum := "86fdc1bf8f01f8050b414e4c9273a1fbfcdd5e32563a1ed08de22baf3a609ec3", func := "storehouse/storehouselaw04.JournalResets", spec := "journalResets", inPlace := ["internal/reflectlite.ValueOf", "(internal/reflectlite.Value).Type", "(internal/reflectlite.Value).IsNil", "internal/reflectlite.TypeOf", "(internal/reflectlite.Value).Elem", "(internal/reflectlite.Value).Set", "internal/abi.NoEscape", "internal/bytealg.MakeNoZero"], unfollowed := true, recurses := true, named := ["errors.errorType"], apart := false, laid := [("errors.errorType", laid_errors_errorType)] }
def JournalResetsSaid : Prop := journalResetsRow.holds Tryd.pinned (OpenSpec.ofChange journalResetsSpec)

/-- ITS FALSE NEIGHBOUR: 'it returns false'. Refute it at one input. -/
def journalResetsWrong : ChangeSpec := { name := "journalResets", fn := fun _ => fun
  | [d1, d2, d3, d4, d5] => { results := [.lit (.bool false)], args := [d1, d2, d3, d4, d5] }
  | _ => none }
def JournalResetsWrongFalsely : Prop := journalResetsRow.holds Tryd.pinned (OpenSpec.ofChange journalResetsWrong)

/- THE SECOND FORM. 'bulk': how many values and letters a reading holds, each counted each time it is reached (what is shared counts as often as it is met; a slice's spare places count too). A statement '..UptoSaid' is the law's where the arguments, and the package variables that the reading takes, are together of bulk at most 1048576: NARROWER than '..Said'. Prove '..Said' where nothing that the law and all that it calls make is longer than what came in: it says more and counts as full. Else prove '..UptoSaid'. A law counts once. -/
mutual
def uptoBulk {H : Type} : DataW H → Nat
  | .lit (.string bytes) => bytes.length + 1
  | .lit _ => 1
  | .nil => 1
  | .ptr d => uptoBulk d + 1
  | .slice elems spare => uptoBulkAll elems + uptoBulkAll spare + 1
  | .agg parts => uptoBulkAll parts + 1
  | .iface _ d => uptoBulk d + 1
  | .map entries => uptoBulkEntries entries + 1
  | .held _ => 1
def uptoBulkAll {H : Type} : List (DataW H) → Nat
  | [] => 0
  | d :: r => uptoBulk d + uptoBulkAll r
def uptoBulkEntries {H : Type} : List (Lit × DataW H) → Nat
  | [] => 0
  | x :: r => uptoBulkEntry x + uptoBulkEntries r
def uptoBulkEntry {H : Type} : Lit × DataW H → Nat
  | (.string bytes, d) => bytes.length + uptoBulk d + 1
  | (_, d) => uptoBulk d + 1
 end
def uptoSmall : (H : Type) → List (DataW H) → Bool := fun _ ds => decide (uptoBulkAll ds ≤ 1048576)
def OpenSpec.upto (s : _root_.Go.ChangeSpec) : _root_.Go.OpenSpec := { _root_.Go.OpenSpec.ofChange s with cond := some uptoSmall }

/-- 'storehouselaw04.JournalTwo', WHERE WHAT IT READS IS OF BULK AT MOST 1048576: true; the input reads as it did. -/
def journalTwoUptoRow : OpenClaim := { program := "ytjbdjkpbkjkdpaadoor", sum := "86fdc1bf8f01f8050b414e4c9273a1fbfcdd5e32563a1ed08de22baf3a609ec3", func := "storehouse/storehouselaw04.JournalTwo", spec := "journalTwo", inPlace := ["internal/reflectlite.ValueOf", "(internal/reflectlite.Value).Type", "(internal/reflectlite.Value).IsNil", "internal/reflectlite.TypeOf", "(internal/reflectlite.Value).Elem", "(internal/reflectlite.Value).Set", "internal/abi.NoEscape", "internal/bytealg.MakeNoZero"], unfollowed := true, recurses := true, named := ["errors.errorType"], apart := false, laid := [("errors.errorType", laid_errors_errorType)], narrowed := true }
def JournalTwoUptoSaid : Prop := journalTwoUptoRow.holds Tryd.pinned (OpenSpec.upto journalTwoSpec)

/-- 'storehouselaw04.JournalAnew', WHERE WHAT IT READS IS OF BULK AT MOST 1048576: true; the input reads as it did. -/
def journalAnewUptoRow : OpenClaim := { program := "ytjbdjkpbkjkdpaadoor", sum := "86fdc1bf8f01f8050b414e4c9273a1fbfcdd5e32563a1ed08de22baf3a609ec3", func := "storehouse/storehouselaw04.JournalAnew", spec := "journalAnew", inPlace := ["internal/reflectlite.ValueOf", "(internal/reflectlite.Value).Type", "(internal/reflectlite.Value).IsNil", "internal/reflectlite.TypeOf", "(internal/reflectlite.Value).Elem", "(internal/reflectlite.Value).Set", "internal/abi.NoEscape", "internal/bytealg.MakeNoZero"], unfollowed := true, recurses := true, named := ["errors.errorType"], apart := false, laid := [("errors.errorType", laid_errors_errorType)], narrowed := true }
def JournalAnewUptoSaid : Prop := journalAnewUptoRow.holds Tryd.pinned (OpenSpec.upto journalAnewSpec)

/-- 'storehouselaw04.JournalLooks', WHERE WHAT IT READS IS OF BULK AT MOST 1048576: true; the input reads as it did. -/
def journalLooksUptoRow : OpenClaim := { program := "ytjbdjkpbkjkdpaadoor", sum := "86fdc1bf8f01f8050b414e4c9273a1fbfcdd5e32563a1ed08de22baf3a609ec3", func := "storehouse/storehouselaw04.JournalLooks", spec := "journalLooks", inPlace := ["internal/reflectlite.ValueOf", "(internal/reflectlite.Value).Type", "(internal/reflectlite.Value).IsNil", "internal/reflectlite.TypeOf", "(internal/reflectlite.Value).Elem", "(internal/reflectlite.Value).Set", "internal/abi.NoEscape", "internal/bytealg.MakeNoZero"], unfollowed := true, recurses := true, named := ["errors.errorType"], apart := false, laid := [("errors.errorType", laid_errors_errorType)], narrowed := true }
def JournalLooksUptoSaid : Prop := journalLooksUptoRow.holds Tryd.pinned (OpenSpec.upto journalLooksSpec)

/-- 'storehouselaw04.JournalCrash', WHERE WHAT IT READS IS OF BULK AT MOST 1048576: true; the input reads as it did. -/
def journalCrashUptoRow : OpenClaim := { program := "ytjbdjkpbkjkdpaadoor", sum := "86fdc1bf8f01f8050b414e4c9273a1fbfcdd5e32563a1ed08de22baf3a609ec3", func := "storehouse/storehouselaw04.JournalCrash", spec := "journalCrash", inPlace := ["internal/reflectlite.ValueOf", "(internal/reflectlite.Value).Type", "(internal/reflectlite.Value).IsNil", "internal/reflectlite.TypeOf", "(internal/reflectlite.Value).Elem", "(internal/reflectlite.Value).Set", "internal/abi.NoEscape", "internal/bytealg.MakeNoZero"], unfollowed := true, recurses := true, named := ["errors.errorType"], apart := false, laid := [("errors.errorType", laid_errors_errorType)], narrowed := true }
def JournalCrashUptoSaid : Prop := journalCrashUptoRow.holds Tryd.pinned (OpenSpec.upto journalCrashSpec)

/-- 'storehouselaw04.JournalResets', WHERE WHAT IT READS IS OF BULK AT MOST 1048576: true; the input reads as it did. -/
def journalResetsUptoRow : OpenClaim := { program := "ytjbdjkpbkjkdpaadoor", sum := "86fdc1bf8f01f8050b414e4c9273a1fbfcdd5e32563a1ed08de22baf3a609ec3", func := "storehouse/storehouselaw04.JournalResets", spec := "journalResets", inPlace := ["internal/reflectlite.ValueOf", "(internal/reflectlite.Value).Type", "(internal/reflectlite.Value).IsNil", "internal/reflectlite.TypeOf", "(internal/reflectlite.Value).Elem", "(internal/reflectlite.Value).Set", "internal/abi.NoEscape", "internal/bytealg.MakeNoZero"], unfollowed := true, recurses := true, named := ["errors.errorType"], apart := false, laid := [("errors.errorType", laid_errors_errorType)], narrowed := true }
def JournalResetsUptoSaid : Prop := journalResetsUptoRow.holds Tryd.pinned (OpenSpec.upto journalResetsSpec)

end Rows
end Go.Proofs.YtjbdjkpbkjkdpaaDoor
