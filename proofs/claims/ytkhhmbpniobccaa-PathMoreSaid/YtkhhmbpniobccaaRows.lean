/-
  No cell of these rows narrows 'for every input' (looked for: loops, veiled, ifaces, maps, wideKeys, modest, calm, conditions, laid).
  DERIVED. THE GIVEN ROWS OF THIS SEAT. 6 by the template 'for every input the law returns true; each argument reads behind the call as it read before'; 0 by the template 'total and deterministic' (their statements: YtkhhmbpniobccaaTotals.lean).
  GIVEN WITH THE SEED: the statements are not yours to turn. If you find one false, say at which input.
  Laid BY PROGRAM, IN A SANDBOX (cutbox-rows.mjs): the forced cells as the released guide's own fill.sh prints them over the translation b00a290cd0660b3f… (all of the seat's roots in one cut). By AI agents, Wed Nov 11 2026. No macro, syntax, notation, axiom, sorry.
-/
import Derived.Test.YtkhhmbpniobccaaChecked
import GoSem.Claim
import GoSem.ClaimJoined
import GoSem.ClaimMapViews
import Derived.JoinedTies
import Derived.KernelRfl
namespace Go.Proofs.Ytkhhmbpniobccaa
/- THE CELL 'sum', in the pinned program and in every row, IS THE sha256 OF THE DUMP (.gsa) THAT YtkhhmbpniobccaaProg.lean LOADS. Nothing in Lean hashes anything: it is a label: what it is worth is what the hold of that sum in a sandbox is worth. -/
noncomputable def Try.pinned : Pinned := { name := "ytkhhmbpniobccaa", sum := "b00a290cd0660b3f819dad575da892fa70b3f36e1865312b4b374d92b672a0ae", checked := Try.checked }
namespace Rows
def none {H : Type} : Left H := { results := [], args := [] }

/-- 'ricksteadlaw3.NarrowThree': WHATEVER THE INPUT: true; the input reads as it did. -/
def narrowThreeSpec : ChangeSpec := { name := "narrowThree", fn := fun _ => fun
  | [d1, d2, d3, d4] => { results := [.lit (.bool true)], args := [d1, d2, d3, d4] }
  | _ => none }
def narrowThreeRow : OpenClaim := { program := "ytkhhmbpniobccaa", sum := "b00a290cd0660b3f819dad575da892fa70b3f36e1865312b4b374d92b672a0ae", func := "rickstead/ricksteadlaw3.NarrowThree", spec := "narrowThree", unfollowed := true, recurses := true, apart := false }
def NarrowThreeSaid : Prop := narrowThreeRow.holds Try.pinned (OpenSpec.ofChange narrowThreeSpec)

/-- ITS FALSE NEIGHBOUR: 'it returns false'. Refute it at one input. -/
def narrowThreeWrong : ChangeSpec := { name := "narrowThree", fn := fun _ => fun
  | [d1, d2, d3, d4] => { results := [.lit (.bool false)], args := [d1, d2, d3, d4] }
  | _ => none }
def NarrowThreeWrongFalsely : Prop := narrowThreeRow.holds Try.pinned (OpenSpec.ofChange narrowThreeWrong)

/-- 'ricksteadlaw3.PathHeights': WHATEVER THE INPUT: true; the input reads as it did. -/
def pathHeightsSpec : ChangeSpec := { name := "pathHeights", fn := fun _ => fun
  | [d1, d2] => { results := [.lit (.bool true)], args := [d1, d2] }
  | _ => none }
def pathHeightsRow : OpenClaim := { program := "ytkhhmbpniobccaa", sum := "b00a290cd0660b3f819dad575da892fa70b3f36e1865312b4b374d92b672a0ae", func := "rickstead/ricksteadlaw3.PathHeights", spec := "pathHeights", unfollowed := true, recurses := true, apart := false }
def PathHeightsSaid : Prop := pathHeightsRow.holds Try.pinned (OpenSpec.ofChange pathHeightsSpec)

/-- ITS FALSE NEIGHBOUR: 'it returns false'. Refute it at one input. -/
def pathHeightsWrong : ChangeSpec := { name := "pathHeights", fn := fun _ => fun
  | [d1, d2] => { results := [.lit (.bool false)], args := [d1, d2] }
  | _ => none }
def PathHeightsWrongFalsely : Prop := pathHeightsRow.holds Try.pinned (OpenSpec.ofChange pathHeightsWrong)

/-- 'ricksteadlaw3.PathMore': WHATEVER THE INPUT: true; the input reads as it did. -/
def pathMoreSpec : ChangeSpec := { name := "pathMore", fn := fun _ => fun
  | [d1, d2, d3] => { results := [.lit (.bool true)], args := [d1, d2, d3] }
  | _ => none }
def pathMoreRow : OpenClaim := { program := "ytkhhmbpniobccaa", sum := "b00a290cd0660b3f819dad575da892fa70b3f36e1865312b4b374d92b672a0ae", func := "rickstead/ricksteadlaw3.PathMore", spec := "pathMore", unfollowed := true, recurses := true, apart := false }
def PathMoreSaid : Prop := pathMoreRow.holds Try.pinned (OpenSpec.ofChange pathMoreSpec)

/-- ITS FALSE NEIGHBOUR: 'it returns false'. Refute it at one input. -/
def pathMoreWrong : ChangeSpec := { name := "pathMore", fn := fun _ => fun
  | [d1, d2, d3] => { results := [.lit (.bool false)], args := [d1, d2, d3] }
  | _ => none }
def PathMoreWrongFalsely : Prop := pathMoreRow.holds Try.pinned (OpenSpec.ofChange pathMoreWrong)

/-- 'ricksteadlaw3.NarrowAny': WHATEVER THE INPUT: true; the input reads as it did. -/
def narrowAnySpec : ChangeSpec := { name := "narrowAny", fn := fun _ => fun
  | [d1, d2] => { results := [.lit (.bool true)], args := [d1, d2] }
  | _ => none }
def narrowAnyRow : OpenClaim := { program := "ytkhhmbpniobccaa", sum := "b00a290cd0660b3f819dad575da892fa70b3f36e1865312b4b374d92b672a0ae", func := "rickstead/ricksteadlaw3.NarrowAny", spec := "narrowAny", unfollowed := true, recurses := true, apart := false }
def NarrowAnySaid : Prop := narrowAnyRow.holds Try.pinned (OpenSpec.ofChange narrowAnySpec)

/-- ITS FALSE NEIGHBOUR: 'it returns false'. Refute it at one input. -/
def narrowAnyWrong : ChangeSpec := { name := "narrowAny", fn := fun _ => fun
  | [d1, d2] => { results := [.lit (.bool false)], args := [d1, d2] }
  | _ => none }
def NarrowAnyWrongFalsely : Prop := narrowAnyRow.holds Try.pinned (OpenSpec.ofChange narrowAnyWrong)

/-- 'ricksteadlaw3.PathThree': WHATEVER THE INPUT: true; the input reads as it did. -/
def pathThreeSpec : ChangeSpec := { name := "pathThree", fn := fun _ => fun
  | [d1, d2, d3, d4] => { results := [.lit (.bool true)], args := [d1, d2, d3, d4] }
  | _ => none }
def pathThreeRow : OpenClaim := { program := "ytkhhmbpniobccaa", sum := "b00a290cd0660b3f819dad575da892fa70b3f36e1865312b4b374d92b672a0ae", func := "rickstead/ricksteadlaw3.PathThree", spec := "pathThree", unfollowed := true, recurses := true, apart := false }
def PathThreeSaid : Prop := pathThreeRow.holds Try.pinned (OpenSpec.ofChange pathThreeSpec)

/-- ITS FALSE NEIGHBOUR: 'it returns false'. Refute it at one input. -/
def pathThreeWrong : ChangeSpec := { name := "pathThree", fn := fun _ => fun
  | [d1, d2, d3, d4] => { results := [.lit (.bool false)], args := [d1, d2, d3, d4] }
  | _ => none }
def PathThreeWrongFalsely : Prop := pathThreeRow.holds Try.pinned (OpenSpec.ofChange pathThreeWrong)

/-- 'ricksteadlaw3.NarrowTree': WHATEVER THE INPUT: true; the input reads as it did. -/
def narrowTreeSpec : ChangeSpec := { name := "narrowTree", fn := fun _ => fun
  | [d1, d2, d3] => { results := [.lit (.bool true)], args := [d1, d2, d3] }
  | _ => none }
def narrowTreeRow : OpenClaim := { program := "ytkhhmbpniobccaa", sum := "b00a290cd0660b3f819dad575da892fa70b3f36e1865312b4b374d92b672a0ae", func := "rickstead/ricksteadlaw3.NarrowTree", spec := "narrowTree", unfollowed := true, recurses := true, apart := false }
def NarrowTreeSaid : Prop := narrowTreeRow.holds Try.pinned (OpenSpec.ofChange narrowTreeSpec)

/-- ITS FALSE NEIGHBOUR: 'it returns false'. Refute it at one input. -/
def narrowTreeWrong : ChangeSpec := { name := "narrowTree", fn := fun _ => fun
  | [d1, d2, d3] => { results := [.lit (.bool false)], args := [d1, d2, d3] }
  | _ => none }
def NarrowTreeWrongFalsely : Prop := narrowTreeRow.holds Try.pinned (OpenSpec.ofChange narrowTreeWrong)

/- THE SECOND FORM. 'bulk': how many values and letters a reading holds, each counted each time it is reached (what is shared counts as often as it is met; a slice's spare places count too). A statement '..UptoSaid' is the law's where the arguments, and the package variables that the reading takes, are together of bulk at most 1048576: NARROWER than '..Said'. Prove '..Said' where nothing that the law and all that it calls make is longer than what came in: it says more and counts as full. Else prove '..UptoSaid'. A law counts once. -/
mutual
def uptoBulk {H : Type} : DataW H → Nat
  | .lit (.string bytes) => bytes.length + 1
  | .lit _ => 1
  | .nil => 1
  | .ptr d => uptoBulk d + 1
  | .slice elems spare => uptoBulkAll elems + uptoBulkAll spare + 1
  | .agg parts => uptoBulkAll parts + 1
  | .iface _ d => uptoBulk d + 1
  | .map entries => uptoBulkEntries entries + 1
  | .held _ => 1
def uptoBulkAll {H : Type} : List (DataW H) → Nat
  | [] => 0
  | d :: r => uptoBulk d + uptoBulkAll r
def uptoBulkEntries {H : Type} : List (Lit × DataW H) → Nat
  | [] => 0
  | x :: r => uptoBulkEntry x + uptoBulkEntries r
def uptoBulkEntry {H : Type} : Lit × DataW H → Nat
  | (.string bytes, d) => bytes.length + uptoBulk d + 1
  | (_, d) => uptoBulk d + 1
 end
def uptoSmall : (H : Type) → List (DataW H) → Bool := fun _ ds => decide (uptoBulkAll ds ≤ 1048576)
def OpenSpec.upto (s : _root_.Go.ChangeSpec) : _root_.Go.OpenSpec := { _root_.Go.OpenSpec.ofChange s with cond := some uptoSmall }

/-- 'ricksteadlaw3.NarrowThree', WHERE WHAT IT READS IS OF BULK AT MOST 1048576: true; the input reads as it did. -/
def narrowThreeUptoRow : OpenClaim := { program := "ytkhhmbpniobccaa", sum := "b00a290cd0660b3f819dad575da892fa70b3f36e1865312b4b374d92b672a0ae", func := "rickstead/ricksteadlaw3.NarrowThree", spec := "narrowThree", unfollowed := true, recurses := true, apart := false, narrowed := true }
def NarrowThreeUptoSaid : Prop := narrowThreeUptoRow.holds Try.pinned (OpenSpec.upto narrowThreeSpec)

/-- 'ricksteadlaw3.PathHeights', WHERE WHAT IT READS IS OF BULK AT MOST 1048576: true; the input reads as it did. -/
def pathHeightsUptoRow : OpenClaim := { program := "ytkhhmbpniobccaa", sum := "b00a290cd0660b3f819dad575da892fa70b3f36e1865312b4b374d92b672a0ae", func := "rickstead/ricksteadlaw3.PathHeights", spec := "pathHeights", unfollowed := true, recurses := true, apart := false, narrowed := true }
def PathHeightsUptoSaid : Prop := pathHeightsUptoRow.holds Try.pinned (OpenSpec.upto pathHeightsSpec)

/-- 'ricksteadlaw3.PathMore', WHERE WHAT IT READS IS OF BULK AT MOST 1048576: true; the input reads as it did. -/
def pathMoreUptoRow : OpenClaim := { program := "ytkhhmbpniobccaa", sum := "b00a290cd0660b3f819dad575da892fa70b3f36e1865312b4b374d92b672a0ae", func := "rickstead/ricksteadlaw3.PathMore", spec := "pathMore", unfollowed := true, recurses := true, apart := false, narrowed := true }
def PathMoreUptoSaid : Prop := pathMoreUptoRow.holds Try.pinned (OpenSpec.upto pathMoreSpec)

/-- 'ricksteadlaw3.NarrowAny', WHERE WHAT IT READS IS OF BULK AT MOST 1048576: true; the input reads as it did. -/
def narrowAnyUptoRow : OpenClaim := { program := "ytkhhmbpniobccaa", sum := "b00a290cd0660b3f819dad575da892fa70b3f36e1865312b4b374d92b672a0ae", func := "rickstead/ricksteadlaw3.NarrowAny", spec := "narrowAny", unfollowed := true, recurses := true, apart := false, narrowed := true }
def NarrowAnyUptoSaid : Prop := narrowAnyUptoRow.holds Try.pinned (OpenSpec.upto narrowAnySpec)

/-- 'ricksteadlaw3.PathThree', WHERE WHAT IT READS IS OF BULK AT MOST 1048576: true; the input reads as it did. -/
def pathThreeUptoRow : OpenClaim := { program := "ytkhhmbpniobccaa", sum := "b00a290cd0660b3f819dad575da892fa70b3f36e1865312b4b374d92b672a0ae", func := "rickstead/ricksteadlaw3.PathThree", spec := "pathThree", unfollowed := true, recurses := true, apart := false, narrowed := true }
def PathThreeUptoSaid : Prop := pathThreeUptoRow.holds Try.pinned (OpenSpec.upto pathThreeSpec)

/-- 'ricksteadlaw3.NarrowTree', WHERE WHAT IT READS IS OF BULK AT MOST 1048576: true; the input reads as it did. -/
def narrowTreeUptoRow : OpenClaim := { program := "ytkhhmbpniobccaa", sum := "b00a290cd0660b3f819dad575da892fa70b3f36e1865312b4b374d92b672a0ae", func := "rickstead/ricksteadlaw3.NarrowTree", spec := "narrowTree", unfollowed := true, recurses := true, apart := false, narrowed := true }
def NarrowTreeUptoSaid : Prop := narrowTreeUptoRow.holds Try.pinned (OpenSpec.upto narrowTreeSpec)

end Rows
end Go.Proofs.Ytkhhmbpniobccaa
