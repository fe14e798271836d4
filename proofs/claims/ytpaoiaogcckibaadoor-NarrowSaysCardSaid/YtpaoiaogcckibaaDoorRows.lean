/-
  NARROWER THAN 'FOR EVERY INPUT', by the rows' own cells (each row's printed sentence says how): UnionPlays: laid · NarrowSays: laid · PathSays: laid · SmithSays: laid · DueSays: laid · FlowSays: laid · SlotsSays: laid · MooreSays: laid · SpanSays: laid.
  DERIVED. THE GIVEN ROWS OF THIS SEAT. 9 by the template 'for every input the law returns true; each argument reads behind the call as it read before'; 0 by the template 'total and deterministic' (their statements: YtpaoiaogcckibaaDoorTotals.lean).
  GIVEN WITH THE SEED: the statements are not yours to turn. If you find one false, say at which input.
  Laid BY PROGRAM, IN A SANDBOX (cutbox-rows.mjs): the forced cells as the released guide's own fill.sh prints them over the translation 4d245e75d28a9d32… (all of the seat's roots in one cut). By AI agents, Wed Nov 11 2026. No macro, syntax, notation, axiom, sorry.
-/
import Derived.Test.YtpaoiaogcckibaaDoorChecked
import GoSem.Claim
import GoSem.ClaimJoined
import GoSem.ClaimMapViews
import Derived.JoinedTies
import Derived.KernelRfl
namespace Go.Proofs.YtpaoiaogcckibaaDoor
/- THE CELL 'sum', in the pinned program and in every row, IS THE sha256 OF THE DUMP (.gsa) THAT YtpaoiaogcckibaaDoorProg.lean LOADS. Nothing in Lean hashes anything: it is a label: what it is worth is what the hold of that sum in a sandbox is worth. -/
noncomputable def Tryd.pinned : Pinned := { name := "ytpaoiaogcckibaadoor", sum := "4d245e75d28a9d32bee98cff1d2632e7b7e32b62f8d242cbf0e4d567da00189a", checked := Tryd.checked }
namespace Rows
def none {H : Type} : Left H := { results := [], args := [] }

/- WHAT THE LISTED PACKAGE-LEVEL VARIABLES READ AS WHEN THE CALL BEGINS. Each datum BY PROGRAM (the guide's laid-datum.mjs) off the statement by which the dump's own 'gosem.cut.vars' lays the variable. In a bare row this is a premise. The card (YtpaoiaogcckibaaDoorCards.lean) ties it to the program's text. -/
def laid_errors_errorType {H : Type} : DataW H := .iface "internal/reflectlite.rtype" (.agg [.ptr (.lit (.string [101, 114, 114, 111, 114]))])

/-- 'ricksteadlaw3.UnionPlays': WHATEVER THE INPUT: true; the input reads as it did. -/
def unionPlaysSpec : ChangeSpec := { name := "unionPlays", fn := fun _ => fun
  | [d1, d2] => { results := [.lit (.bool true)], args := [d1, d2] }
  | _ => none }
def unionPlaysRow : OpenClaim := { program := "ytpaoiaogcckibaadoor", sum := "4d245e75d28a9d32bee98cff1d2632e7b7e32b62f8d242cbf0e4d567da00189a", func := "rickstead/ricksteadlaw3.UnionPlays", spec := "unionPlays", inPlace := ["internal/reflectlite.ValueOf", "(internal/reflectlite.Value).Type", "(internal/reflectlite.Value).IsNil", "internal/reflectlite.TypeOf", "(internal/reflectlite.Value).Elem", "(internal/reflectlite.Value).Set"], unfollowed := true, recurses := true, named := ["errors.errorType"], apart := false, laid := [("errors.errorType", laid_errors_errorType)] }
def UnionPlaysSaid : Prop := unionPlaysRow.holds Tryd.pinned (OpenSpec.ofChange unionPlaysSpec)

/-- ITS FALSE NEIGHBOUR: 'it returns false'. Refute it at one input. -/
def unionPlaysWrong : ChangeSpec := { name := "unionPlays", fn := fun _ => fun
  | [d1, d2] => { results := [.lit (.bool false)], args := [d1, d2] }
  | _ => none }
def UnionPlaysWrongFalsely : Prop := unionPlaysRow.holds Tryd.pinned (OpenSpec.ofChange unionPlaysWrong)

/-- 'ricksteadlaw3.NarrowSays': WHATEVER THE INPUT: true; the input reads as it did. -/
def narrowSaysSpec : ChangeSpec := { name := "narrowSays", fn := fun _ => fun
  | [d1, d2, d3, d4] => { results := [.lit (.bool true)], args := [d1, d2, d3, d4] }
  | _ => none }
def narrowSaysRow : OpenClaim := { program := "ytpaoiaogcckibaadoor", sum := "4d245e75d28a9d32bee98cff1d2632e7b7e32b62f8d242cbf0e4d567da00189a", func := "rickstead/ricksteadlaw3.NarrowSays", spec := "narrowSays", inPlace := ["internal/reflectlite.ValueOf", "(internal/reflectlite.Value).Type", "(internal/reflectlite.Value).IsNil", "internal/reflectlite.TypeOf", "(internal/reflectlite.Value).Elem", "(internal/reflectlite.Value).Set"], unfollowed := true, recurses := true, named := ["errors.errorType"], apart := false, laid := [("errors.errorType", laid_errors_errorType)] }
def NarrowSaysSaid : Prop := narrowSaysRow.holds Tryd.pinned (OpenSpec.ofChange narrowSaysSpec)

/-- ITS FALSE NEIGHBOUR: 'it returns false'. Refute it at one input. -/
def narrowSaysWrong : ChangeSpec := { name := "narrowSays", fn := fun _ => fun
  | [d1, d2, d3, d4] => { results := [.lit (.bool false)], args := [d1, d2, d3, d4] }
  | _ => none }
def NarrowSaysWrongFalsely : Prop := narrowSaysRow.holds Tryd.pinned (OpenSpec.ofChange narrowSaysWrong)

/-- 'ricksteadlaw3.PathSays': WHATEVER THE INPUT: true; the input reads as it did. -/
def pathSaysSpec : ChangeSpec := { name := "pathSays", fn := fun _ => fun
  | [d1, d2, d3, d4] => { results := [.lit (.bool true)], args := [d1, d2, d3, d4] }
  | _ => none }
def pathSaysRow : OpenClaim := { program := "ytpaoiaogcckibaadoor", sum := "4d245e75d28a9d32bee98cff1d2632e7b7e32b62f8d242cbf0e4d567da00189a", func := "rickstead/ricksteadlaw3.PathSays", spec := "pathSays", inPlace := ["internal/reflectlite.ValueOf", "(internal/reflectlite.Value).Type", "(internal/reflectlite.Value).IsNil", "internal/reflectlite.TypeOf", "(internal/reflectlite.Value).Elem", "(internal/reflectlite.Value).Set"], unfollowed := true, recurses := true, named := ["errors.errorType"], apart := false, laid := [("errors.errorType", laid_errors_errorType)] }
def PathSaysSaid : Prop := pathSaysRow.holds Tryd.pinned (OpenSpec.ofChange pathSaysSpec)

/-- ITS FALSE NEIGHBOUR: 'it returns false'. Refute it at one input. -/
def pathSaysWrong : ChangeSpec := { name := "pathSays", fn := fun _ => fun
  | [d1, d2, d3, d4] => { results := [.lit (.bool false)], args := [d1, d2, d3, d4] }
  | _ => none }
def PathSaysWrongFalsely : Prop := pathSaysRow.holds Tryd.pinned (OpenSpec.ofChange pathSaysWrong)

/-- 'ricksteadlaw4.SmithSays': WHATEVER THE INPUT: true; the input reads as it did. -/
def smithSaysSpec : ChangeSpec := { name := "smithSays", fn := fun _ => fun
  | [d1, d2] => { results := [.lit (.bool true)], args := [d1, d2] }
  | _ => none }
def smithSaysRow : OpenClaim := { program := "ytpaoiaogcckibaadoor", sum := "4d245e75d28a9d32bee98cff1d2632e7b7e32b62f8d242cbf0e4d567da00189a", func := "rickstead/ricksteadlaw4.SmithSays", spec := "smithSays", inPlace := ["internal/reflectlite.ValueOf", "(internal/reflectlite.Value).Type", "(internal/reflectlite.Value).IsNil", "internal/reflectlite.TypeOf", "(internal/reflectlite.Value).Elem", "(internal/reflectlite.Value).Set"], unfollowed := true, recurses := true, named := ["errors.errorType"], apart := false, laid := [("errors.errorType", laid_errors_errorType)] }
def SmithSaysSaid : Prop := smithSaysRow.holds Tryd.pinned (OpenSpec.ofChange smithSaysSpec)

/-- ITS FALSE NEIGHBOUR: 'it returns false'. Refute it at one input. -/
def smithSaysWrong : ChangeSpec := { name := "smithSays", fn := fun _ => fun
  | [d1, d2] => { results := [.lit (.bool false)], args := [d1, d2] }
  | _ => none }
def SmithSaysWrongFalsely : Prop := smithSaysRow.holds Tryd.pinned (OpenSpec.ofChange smithSaysWrong)

/-- 'ricksteadlaw4.DueSays': WHATEVER THE INPUT: true; the input reads as it did. -/
def dueSaysSpec : ChangeSpec := { name := "dueSays", fn := fun _ => fun
  | [d1, d2, d3] => { results := [.lit (.bool true)], args := [d1, d2, d3] }
  | _ => none }
def dueSaysRow : OpenClaim := { program := "ytpaoiaogcckibaadoor", sum := "4d245e75d28a9d32bee98cff1d2632e7b7e32b62f8d242cbf0e4d567da00189a", func := "rickstead/ricksteadlaw4.DueSays", spec := "dueSays", inPlace := ["internal/reflectlite.ValueOf", "(internal/reflectlite.Value).Type", "(internal/reflectlite.Value).IsNil", "internal/reflectlite.TypeOf", "(internal/reflectlite.Value).Elem", "(internal/reflectlite.Value).Set"], unfollowed := true, recurses := true, named := ["errors.errorType"], apart := false, laid := [("errors.errorType", laid_errors_errorType)] }
def DueSaysSaid : Prop := dueSaysRow.holds Tryd.pinned (OpenSpec.ofChange dueSaysSpec)

/-- ITS FALSE NEIGHBOUR: 'it returns false'. Refute it at one input. -/
def dueSaysWrong : ChangeSpec := { name := "dueSays", fn := fun _ => fun
  | [d1, d2, d3] => { results := [.lit (.bool false)], args := [d1, d2, d3] }
  | _ => none }
def DueSaysWrongFalsely : Prop := dueSaysRow.holds Tryd.pinned (OpenSpec.ofChange dueSaysWrong)

/-- 'ricksteadlaw4.FlowSays': WHATEVER THE INPUT: true; the input reads as it did. -/
def flowSaysSpec : ChangeSpec := { name := "flowSays", fn := fun _ => fun
  | [d1, d2] => { results := [.lit (.bool true)], args := [d1, d2] }
  | _ => none }
def flowSaysRow : OpenClaim := { program := "ytpaoiaogcckibaadoor", sum := "4d245e75d28a9d32bee98cff1d2632e7b7e32b62f8d242cbf0e4d567da00189a", func := "rickstead/ricksteadlaw4.FlowSays", spec := "flowSays", inPlace := ["internal/reflectlite.ValueOf", "(internal/reflectlite.Value).Type", "(internal/reflectlite.Value).IsNil", "internal/reflectlite.TypeOf", "(internal/reflectlite.Value).Elem", "(internal/reflectlite.Value).Set"], unfollowed := true, recurses := true, named := ["errors.errorType"], apart := false, laid := [("errors.errorType", laid_errors_errorType)] }
def FlowSaysSaid : Prop := flowSaysRow.holds Tryd.pinned (OpenSpec.ofChange flowSaysSpec)

/-- ITS FALSE NEIGHBOUR: 'it returns false'. Refute it at one input. -/
def flowSaysWrong : ChangeSpec := { name := "flowSays", fn := fun _ => fun
  | [d1, d2] => { results := [.lit (.bool false)], args := [d1, d2] }
  | _ => none }
def FlowSaysWrongFalsely : Prop := flowSaysRow.holds Tryd.pinned (OpenSpec.ofChange flowSaysWrong)

/-- 'ricksteadlaw4.SlotsSays': WHATEVER THE INPUT: true; the input reads as it did. -/
def slotsSaysSpec : ChangeSpec := { name := "slotsSays", fn := fun _ => fun
  | [d] => { results := [.lit (.bool true)], args := [d] }
  | _ => none }
def slotsSaysRow : OpenClaim := { program := "ytpaoiaogcckibaadoor", sum := "4d245e75d28a9d32bee98cff1d2632e7b7e32b62f8d242cbf0e4d567da00189a", func := "rickstead/ricksteadlaw4.SlotsSays", spec := "slotsSays", inPlace := ["internal/reflectlite.ValueOf", "(internal/reflectlite.Value).Type", "(internal/reflectlite.Value).IsNil", "internal/reflectlite.TypeOf", "(internal/reflectlite.Value).Elem", "(internal/reflectlite.Value).Set"], unfollowed := true, recurses := true, named := ["errors.errorType"], apart := false, laid := [("errors.errorType", laid_errors_errorType)] }
def SlotsSaysSaid : Prop := slotsSaysRow.holds Tryd.pinned (OpenSpec.ofChange slotsSaysSpec)

/-- ITS FALSE NEIGHBOUR: 'it returns false'. Refute it at one input. -/
def slotsSaysWrong : ChangeSpec := { name := "slotsSays", fn := fun _ => fun
  | [d] => { results := [.lit (.bool false)], args := [d] }
  | _ => none }
def SlotsSaysWrongFalsely : Prop := slotsSaysRow.holds Tryd.pinned (OpenSpec.ofChange slotsSaysWrong)

/-- 'ricksteadlaw4.MooreSays': WHATEVER THE INPUT: true; the input reads as it did. -/
def mooreSaysSpec : ChangeSpec := { name := "mooreSays", fn := fun _ => fun
  | [d1, d2] => { results := [.lit (.bool true)], args := [d1, d2] }
  | _ => none }
def mooreSaysRow : OpenClaim := { program := "ytpaoiaogcckibaadoor", sum := "4d245e75d28a9d32bee98cff1d2632e7b7e32b62f8d242cbf0e4d567da00189a", func := "rickstead/ricksteadlaw4.MooreSays", spec := "mooreSays", inPlace := ["internal/reflectlite.ValueOf", "(internal/reflectlite.Value).Type", "(internal/reflectlite.Value).IsNil", "internal/reflectlite.TypeOf", "(internal/reflectlite.Value).Elem", "(internal/reflectlite.Value).Set"], unfollowed := true, recurses := true, named := ["errors.errorType"], apart := false, laid := [("errors.errorType", laid_errors_errorType)] }
def MooreSaysSaid : Prop := mooreSaysRow.holds Tryd.pinned (OpenSpec.ofChange mooreSaysSpec)

/-- ITS FALSE NEIGHBOUR: 'it returns false'. Refute it at one input. -/
def mooreSaysWrong : ChangeSpec := { name := "mooreSays", fn := fun _ => fun
  | [d1, d2] => { results := [.lit (.bool false)], args := [d1, d2] }
  | _ => none }
def MooreSaysWrongFalsely : Prop := mooreSaysRow.holds Tryd.pinned (OpenSpec.ofChange mooreSaysWrong)

/-- 'ricksteadlaw3.SpanSays': WHATEVER THE INPUT: true; the input reads as it did. -/
def spanSaysSpec : ChangeSpec := { name := "spanSays", fn := fun _ => fun
  | [d1, d2] => { results := [.lit (.bool true)], args := [d1, d2] }
  | _ => none }
def spanSaysRow : OpenClaim := { program := "ytpaoiaogcckibaadoor", sum := "4d245e75d28a9d32bee98cff1d2632e7b7e32b62f8d242cbf0e4d567da00189a", func := "rickstead/ricksteadlaw3.SpanSays", spec := "spanSays", inPlace := ["internal/reflectlite.ValueOf", "(internal/reflectlite.Value).Type", "(internal/reflectlite.Value).IsNil", "internal/reflectlite.TypeOf", "(internal/reflectlite.Value).Elem", "(internal/reflectlite.Value).Set"], unfollowed := true, recurses := true, named := ["errors.errorType"], apart := false, laid := [("errors.errorType", laid_errors_errorType)] }
def SpanSaysSaid : Prop := spanSaysRow.holds Tryd.pinned (OpenSpec.ofChange spanSaysSpec)

/-- ITS FALSE NEIGHBOUR: 'it returns false'. Refute it at one input. -/
def spanSaysWrong : ChangeSpec := { name := "spanSays", fn := fun _ => fun
  | [d1, d2] => { results := [.lit (.bool false)], args := [d1, d2] }
  | _ => none }
def SpanSaysWrongFalsely : Prop := spanSaysRow.holds Tryd.pinned (OpenSpec.ofChange spanSaysWrong)

/- THE SECOND FORM. 'bulk': how many values and letters a reading holds, each counted each time it is reached (what is shared counts as often as it is met; a slice's spare places count too). A statement '..UptoSaid' is the law's where the arguments, and the package variables that the reading takes, are together of bulk at most 1048576: NARROWER than '..Said'. Prove '..Said' where nothing that the law and all that it calls make is longer than what came in: it says more and counts as full. Else prove '..UptoSaid'. A law counts once. -/
mutual
def uptoBulk {H : Type} : DataW H → Nat
  | .lit (.string bytes) => bytes.length + 1
  | .lit _ => 1
  | .nil => 1
  | .ptr d => uptoBulk d + 1
  | .slice elems spare => uptoBulkAll elems + uptoBulkAll spare + 1
  | .agg parts => uptoBulkAll parts + 1
  | .iface _ d => uptoBulk d + 1
  | .map entries => uptoBulkEntries entries + 1
  | .held _ => 1
def uptoBulkAll {H : Type} : List (DataW H) → Nat
  | [] => 0
  | d :: r => uptoBulk d + uptoBulkAll r
def uptoBulkEntries {H : Type} : List (Lit × DataW H) → Nat
  | [] => 0
  | x :: r => uptoBulkEntry x + uptoBulkEntries r
def uptoBulkEntry {H : Type} : Lit × DataW H → Nat
  | (.string bytes, d) => bytes.length + uptoBulk d + 1
  | (_, d) => uptoBulk d + 1
 end
def uptoSmall : (H : Type) → List (DataW H) → Bool := fun _ ds => decide (uptoBulkAll ds ≤ 1048576)
def OpenSpec.upto (s : _root_.Go.ChangeSpec) : _root_.Go.OpenSpec := { _root_.Go.OpenSpec.ofChange s with cond := some uptoSmall }

/-- 'ricksteadlaw3.UnionPlays', WHERE WHAT IT READS IS OF BULK AT MOST 1048576: true; the input reads as it did. -/
def unionPlaysUptoRow : OpenClaim := { program := "ytpaoiaogcckibaadoor", sum := "4d245e75d28a9d32bee98cff1d2632e7b7e32b62f8d242cbf0e4d567da00189a", func := "rickstead/ricksteadlaw3.UnionPlays", spec := "unionPlays", inPlace := ["internal/reflectlite.ValueOf", "(internal/reflectlite.Value).Type", "(internal/reflectlite.Value).IsNil", "internal/reflectlite.TypeOf", "(internal/reflectlite.Value).Elem", "(internal/reflectlite.Value).Set"], unfollowed := true, recurses := true, named := ["errors.errorType"], apart := false, laid := [("errors.errorType", laid_errors_errorType)], narrowed := true }
def UnionPlaysUptoSaid : Prop := unionPlaysUptoRow.holds Tryd.pinned (OpenSpec.upto unionPlaysSpec)

/-- 'ricksteadlaw3.NarrowSays', WHERE WHAT IT READS IS OF BULK AT MOST 1048576: true; the input reads as it did. -/
def narrowSaysUptoRow : OpenClaim := { program := "ytpaoiaogcckibaadoor", sum := "4d245e75d28a9d32bee98cff1d2632e7b7e32b62f8d242cbf0e4d567da00189a", func := "rickstead/ricksteadlaw3.NarrowSays", spec := "narrowSays", inPlace := ["internal/reflectlite.ValueOf", "(internal/reflectlite.Value).Type", "(internal/reflectlite.Value).IsNil", "internal/reflectlite.TypeOf", "(internal/reflectlite.Value).Elem", "(internal/reflectlite.Value).Set"], unfollowed := true, recurses := true, named := ["errors.errorType"], apart := false, laid := [("errors.errorType", laid_errors_errorType)], narrowed := true }
def NarrowSaysUptoSaid : Prop := narrowSaysUptoRow.holds Tryd.pinned (OpenSpec.upto narrowSaysSpec)

/-- 'ricksteadlaw3.PathSays', WHERE WHAT IT READS IS OF BULK AT MOST 1048576: true; the input reads as it did. -/
def pathSaysUptoRow : OpenClaim := { program := "ytpaoiaogcckibaadoor", sum := "4d245e75d28a9d32bee98cff1d2632e7b7e32b62f8d242cbf0e4d567da00189a", func := "rickstead/ricksteadlaw3.PathSays", spec := "pathSays", inPlace := ["internal/reflectlite.ValueOf", "(internal/reflectlite.Value).Type", "(internal/reflectlite.Value).IsNil", "internal/reflectlite.TypeOf", "(internal/reflectlite.Value).Elem", "(internal/reflectlite.Value).Set"], unfollowed := true, recurses := true, named := ["errors.errorType"], apart := false, laid := [("errors.errorType", laid_errors_errorType)], narrowed := true }
def PathSaysUptoSaid : Prop := pathSaysUptoRow.holds Tryd.pinned (OpenSpec.upto pathSaysSpec)

/-- 'ricksteadlaw4.SmithSays', WHERE WHAT IT READS IS OF BULK AT MOST 1048576: true; the input reads as it did. -/
def smithSaysUptoRow : OpenClaim := { program := "ytpaoiaogcckibaadoor", sum := "4d245e75d28a9d32bee98cff1d2632e7b7e32b62f8d242cbf0e4d567da00189a", func := "rickstead/ricksteadlaw4.SmithSays", spec := "smithSays", inPlace := ["internal/reflectlite.ValueOf", "(internal/reflectlite.Value).Type", "(internal/reflectlite.Value).IsNil", "internal/reflectlite.TypeOf", "(internal/reflectlite.Value).Elem", "(internal/reflectlite.Value).Set"], unfollowed := true, recurses := true, named := ["errors.errorType"], apart := false, laid := [("errors.errorType", laid_errors_errorType)], narrowed := true }
def SmithSaysUptoSaid : Prop := smithSaysUptoRow.holds Tryd.pinned (OpenSpec.upto smithSaysSpec)

/-- 'ricksteadlaw4.DueSays', WHERE WHAT IT READS IS OF BULK AT MOST 1048576: true; the input reads as it did. -/
def dueSaysUptoRow : OpenClaim := { program := "ytpaoiaogcckibaadoor", sum := "4d245e75d28a9d32bee98cff1d2632e7b7e32b62f8d242cbf0e4d567da00189a", func := "rickstead/ricksteadlaw4.DueSays", spec := "dueSays", inPlace := ["internal/reflectlite.ValueOf", "(internal/reflectlite.Value).Type", "(internal/reflectlite.Value).IsNil", "internal/reflectlite.TypeOf", "(internal/reflectlite.Value).Elem", "(internal/reflectlite.Value).Set"], unfollowed := true, recurses := true, named := ["errors.errorType"], apart := false, laid := [("errors.errorType", laid_errors_errorType)], narrowed := true }
def DueSaysUptoSaid : Prop := dueSaysUptoRow.holds Tryd.pinned (OpenSpec.upto dueSaysSpec)

/-- 'ricksteadlaw4.FlowSays', WHERE WHAT IT READS IS OF BULK AT MOST 1048576: true; the input reads as it did. -/
def flowSaysUptoRow : OpenClaim := { program := "ytpaoiaogcckibaadoor", sum := "4d245e75d28a9d32bee98cff1d2632e7b7e32b62f8d242cbf0e4d567da00189a", func := "rickstead/ricksteadlaw4.FlowSays", spec := "flowSays", inPlace := ["internal/reflectlite.ValueOf", "(internal/reflectlite.Value).Type", "(internal/reflectlite.Value).IsNil", "internal/reflectlite.TypeOf", "(internal/reflectlite.Value).Elem", "(internal/reflectlite.Value).Set"], unfollowed := true, recurses := true, named := ["errors.errorType"], apart := false, laid := [("errors.errorType", laid_errors_errorType)], narrowed := true }
def FlowSaysUptoSaid : Prop := flowSaysUptoRow.holds Tryd.pinned (OpenSpec.upto flowSaysSpec)

/-- 'ricksteadlaw4.SlotsSays', WHERE WHAT IT READS IS OF BULK AT MOST 1048576: true; the input reads as it did. -/
def slotsSaysUptoRow : OpenClaim := { program := "ytpaoiaogcckibaadoor", sum := "4d245e75d28a9d32bee98cff1d2632e7b7e32b62f8d242cbf0e4d567da00189a", func := "rickstead/ricksteadlaw4.SlotsSays", spec := "slotsSays", inPlace := ["internal/reflectlite.ValueOf", "(internal/reflectlite.Value).Type", "(internal/reflectlite.Value).IsNil", "internal/reflectlite.TypeOf", "(internal/reflectlite.Value).Elem", "(internal/reflectlite.Value).Set"], unfollowed := true, recurses := true, named := ["errors.errorType"], apart := false, laid := [("errors.errorType", laid_errors_errorType)], narrowed := true }
def SlotsSaysUptoSaid : Prop := slotsSaysUptoRow.holds Tryd.pinned (OpenSpec.upto slotsSaysSpec)

/-- 'ricksteadlaw4.MooreSays', WHERE WHAT IT READS IS OF BULK AT MOST 1048576: true; the input reads as it did. -/
def mooreSaysUptoRow : OpenClaim := { program := "ytpaoiaogcckibaadoor", sum := "4d245e75d28a9d32bee98cff1d2632e7b7e32b62f8d242cbf0e4d567da00189a", func := "rickstead/ricksteadlaw4.MooreSays", spec := "mooreSays", inPlace := ["internal/reflectlite.ValueOf", "(internal/reflectlite.Value).Type", "(internal/reflectlite.Value).IsNil", "internal/reflectlite.TypeOf", "(internal/reflectlite.Value).Elem", "(internal/reflectlite.Value).Set"], unfollowed := true, recurses := true, named := ["errors.errorType"], apart := false, laid := [("errors.errorType", laid_errors_errorType)], narrowed := true }
def MooreSaysUptoSaid : Prop := mooreSaysUptoRow.holds Tryd.pinned (OpenSpec.upto mooreSaysSpec)

/-- 'ricksteadlaw3.SpanSays', WHERE WHAT IT READS IS OF BULK AT MOST 1048576: true; the input reads as it did. -/
def spanSaysUptoRow : OpenClaim := { program := "ytpaoiaogcckibaadoor", sum := "4d245e75d28a9d32bee98cff1d2632e7b7e32b62f8d242cbf0e4d567da00189a", func := "rickstead/ricksteadlaw3.SpanSays", spec := "spanSays", inPlace := ["internal/reflectlite.ValueOf", "(internal/reflectlite.Value).Type", "(internal/reflectlite.Value).IsNil", "internal/reflectlite.TypeOf", "(internal/reflectlite.Value).Elem", "(internal/reflectlite.Value).Set"], unfollowed := true, recurses := true, named := ["errors.errorType"], apart := false, laid := [("errors.errorType", laid_errors_errorType)], narrowed := true }
def SpanSaysUptoSaid : Prop := spanSaysUptoRow.holds Tryd.pinned (OpenSpec.upto spanSaysSpec)

end Rows
end Go.Proofs.YtpaoiaogcckibaaDoor
