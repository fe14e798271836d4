/-
  No cell of these rows narrows 'for every input' (looked for: loops, veiled, ifaces, maps, wideKeys, modest, calm, conditions, laid).
  DERIVED. THE GIVEN ROWS OF THIS SEAT. 9 by the template 'for every input the law returns true; each argument reads behind the call as it read before'; 0 by the template 'total and deterministic' (their statements: YtbpggecholgdkaaTotals.lean).
  GIVEN WITH THE SEED: the statements are not yours to turn. If you find one false, say at which input.
  Laid BY PROGRAM, IN A SANDBOX (cutbox-rows.mjs): the forced cells as the released guide's own fill.sh prints them over the translation daef1412b7d53783… (all of the seat's roots in one cut). By AI agents, Wed Nov 11 2026. No macro, syntax, notation, axiom, sorry.
-/
import Derived.Test.YtbpggecholgdkaaChecked
import GoSem.Claim
import GoSem.ClaimJoined
import GoSem.ClaimMapViews
import Derived.JoinedTies
import Derived.KernelRfl
namespace Go.Proofs.Ytbpggecholgdkaa
/- THE CELL 'sum', in the pinned program and in every row, IS THE sha256 OF THE DUMP (.gsa) THAT YtbpggecholgdkaaProg.lean LOADS. Nothing in Lean hashes anything: it is a label: what it is worth is what the hold of that sum in a sandbox is worth. -/
noncomputable def Try.pinned : Pinned := { name := "ytbpggecholgdkaa", sum := "daef1412b7d537838712fedc3357b6fb99a2047e6f361883bc902215209cf879", checked := Try.checked }
namespace Rows
def none {H : Type} : Left H := { results := [], args := [] }

/-- 'ricksteadlaw4.FlowTurned': WHATEVER THE INPUT: true; the input reads as it did. -/
def flowTurnedSpec : ChangeSpec := { name := "flowTurned", fn := fun _ => fun
  | [d1, d2] => { results := [.lit (.bool true)], args := [d1, d2] }
  | _ => none }
def flowTurnedRow : OpenClaim := { program := "ytbpggecholgdkaa", sum := "daef1412b7d537838712fedc3357b6fb99a2047e6f361883bc902215209cf879", func := "rickstead/ricksteadlaw4.FlowTurned", spec := "flowTurned", apart := false }
def FlowTurnedSaid : Prop := flowTurnedRow.holds Try.pinned (OpenSpec.ofChange flowTurnedSpec)

/-- ITS FALSE NEIGHBOUR: 'it returns false'. Refute it at one input. -/
def flowTurnedWrong : ChangeSpec := { name := "flowTurned", fn := fun _ => fun
  | [d1, d2] => { results := [.lit (.bool false)], args := [d1, d2] }
  | _ => none }
def FlowTurnedWrongFalsely : Prop := flowTurnedRow.holds Try.pinned (OpenSpec.ofChange flowTurnedWrong)

/-- 'ricksteadlaw4.FlowBounds': WHATEVER THE INPUT: true; the input reads as it did. -/
def flowBoundsSpec : ChangeSpec := { name := "flowBounds", fn := fun _ => fun
  | [d1, d2] => { results := [.lit (.bool true)], args := [d1, d2] }
  | _ => none }
def flowBoundsRow : OpenClaim := { program := "ytbpggecholgdkaa", sum := "daef1412b7d537838712fedc3357b6fb99a2047e6f361883bc902215209cf879", func := "rickstead/ricksteadlaw4.FlowBounds", spec := "flowBounds", apart := false }
def FlowBoundsSaid : Prop := flowBoundsRow.holds Try.pinned (OpenSpec.ofChange flowBoundsSpec)

/-- ITS FALSE NEIGHBOUR: 'it returns false'. Refute it at one input. -/
def flowBoundsWrong : ChangeSpec := { name := "flowBounds", fn := fun _ => fun
  | [d1, d2] => { results := [.lit (.bool false)], args := [d1, d2] }
  | _ => none }
def FlowBoundsWrongFalsely : Prop := flowBoundsRow.holds Try.pinned (OpenSpec.ofChange flowBoundsWrong)

/-- 'ricksteadlaw4.SmithBest': WHATEVER THE INPUT: true; the input reads as it did. -/
def smithBestSpec : ChangeSpec := { name := "smithBest", fn := fun _ => fun
  | [d1, d2] => { results := [.lit (.bool true)], args := [d1, d2] }
  | _ => none }
def smithBestRow : OpenClaim := { program := "ytbpggecholgdkaa", sum := "daef1412b7d537838712fedc3357b6fb99a2047e6f361883bc902215209cf879", func := "rickstead/ricksteadlaw4.SmithBest", spec := "smithBest", unfollowed := true, recurses := true, apart := false }
def SmithBestSaid : Prop := smithBestRow.holds Try.pinned (OpenSpec.ofChange smithBestSpec)

/-- ITS FALSE NEIGHBOUR: 'it returns false'. Refute it at one input. -/
def smithBestWrong : ChangeSpec := { name := "smithBest", fn := fun _ => fun
  | [d1, d2] => { results := [.lit (.bool false)], args := [d1, d2] }
  | _ => none }
def SmithBestWrongFalsely : Prop := smithBestRow.holds Try.pinned (OpenSpec.ofChange smithBestWrong)

/-- 'ricksteadlaw4.SmithSwap': WHATEVER THE INPUT: true; the input reads as it did. -/
def smithSwapSpec : ChangeSpec := { name := "smithSwap", fn := fun _ => fun
  | [d1, d2, d3] => { results := [.lit (.bool true)], args := [d1, d2, d3] }
  | _ => none }
def smithSwapRow : OpenClaim := { program := "ytbpggecholgdkaa", sum := "daef1412b7d537838712fedc3357b6fb99a2047e6f361883bc902215209cf879", func := "rickstead/ricksteadlaw4.SmithSwap", spec := "smithSwap", unfollowed := true, recurses := true, apart := false }
def SmithSwapSaid : Prop := smithSwapRow.holds Try.pinned (OpenSpec.ofChange smithSwapSpec)

/-- ITS FALSE NEIGHBOUR: 'it returns false'. Refute it at one input. -/
def smithSwapWrong : ChangeSpec := { name := "smithSwap", fn := fun _ => fun
  | [d1, d2, d3] => { results := [.lit (.bool false)], args := [d1, d2, d3] }
  | _ => none }
def SmithSwapWrongFalsely : Prop := smithSwapRow.holds Try.pinned (OpenSpec.ofChange smithSwapWrong)

/-- 'ricksteadlaw4.SmithTurned': WHATEVER THE INPUT: true; the input reads as it did. -/
def smithTurnedSpec : ChangeSpec := { name := "smithTurned", fn := fun _ => fun
  | [d1, d2] => { results := [.lit (.bool true)], args := [d1, d2] }
  | _ => none }
def smithTurnedRow : OpenClaim := { program := "ytbpggecholgdkaa", sum := "daef1412b7d537838712fedc3357b6fb99a2047e6f361883bc902215209cf879", func := "rickstead/ricksteadlaw4.SmithTurned", spec := "smithTurned", unfollowed := true, recurses := true, apart := false }
def SmithTurnedSaid : Prop := smithTurnedRow.holds Try.pinned (OpenSpec.ofChange smithTurnedSpec)

/-- ITS FALSE NEIGHBOUR: 'it returns false'. Refute it at one input. -/
def smithTurnedWrong : ChangeSpec := { name := "smithTurned", fn := fun _ => fun
  | [d1, d2] => { results := [.lit (.bool false)], args := [d1, d2] }
  | _ => none }
def SmithTurnedWrongFalsely : Prop := smithTurnedRow.holds Try.pinned (OpenSpec.ofChange smithTurnedWrong)

/-- 'ricksteadlaw4.DueBest': WHATEVER THE INPUT: true; the input reads as it did. -/
def dueBestSpec : ChangeSpec := { name := "dueBest", fn := fun _ => fun
  | [d1, d2] => { results := [.lit (.bool true)], args := [d1, d2] }
  | _ => none }
def dueBestRow : OpenClaim := { program := "ytbpggecholgdkaa", sum := "daef1412b7d537838712fedc3357b6fb99a2047e6f361883bc902215209cf879", func := "rickstead/ricksteadlaw4.DueBest", spec := "dueBest", unfollowed := true, recurses := true, apart := false }
def DueBestSaid : Prop := dueBestRow.holds Try.pinned (OpenSpec.ofChange dueBestSpec)

/-- ITS FALSE NEIGHBOUR: 'it returns false'. Refute it at one input. -/
def dueBestWrong : ChangeSpec := { name := "dueBest", fn := fun _ => fun
  | [d1, d2] => { results := [.lit (.bool false)], args := [d1, d2] }
  | _ => none }
def DueBestWrongFalsely : Prop := dueBestRow.holds Try.pinned (OpenSpec.ofChange dueBestWrong)

/-- 'ricksteadlaw4.DueSwap': WHATEVER THE INPUT: true; the input reads as it did. -/
def dueSwapSpec : ChangeSpec := { name := "dueSwap", fn := fun _ => fun
  | [d1, d2, d3] => { results := [.lit (.bool true)], args := [d1, d2, d3] }
  | _ => none }
def dueSwapRow : OpenClaim := { program := "ytbpggecholgdkaa", sum := "daef1412b7d537838712fedc3357b6fb99a2047e6f361883bc902215209cf879", func := "rickstead/ricksteadlaw4.DueSwap", spec := "dueSwap", unfollowed := true, recurses := true, apart := false }
def DueSwapSaid : Prop := dueSwapRow.holds Try.pinned (OpenSpec.ofChange dueSwapSpec)

/-- ITS FALSE NEIGHBOUR: 'it returns false'. Refute it at one input. -/
def dueSwapWrong : ChangeSpec := { name := "dueSwap", fn := fun _ => fun
  | [d1, d2, d3] => { results := [.lit (.bool false)], args := [d1, d2, d3] }
  | _ => none }
def DueSwapWrongFalsely : Prop := dueSwapRow.holds Try.pinned (OpenSpec.ofChange dueSwapWrong)

/-- 'ricksteadlaw4.DueLater': WHATEVER THE INPUT: true; the input reads as it did. -/
def dueLaterSpec : ChangeSpec := { name := "dueLater", fn := fun _ => fun
  | [d1, d2] => { results := [.lit (.bool true)], args := [d1, d2] }
  | _ => none }
def dueLaterRow : OpenClaim := { program := "ytbpggecholgdkaa", sum := "daef1412b7d537838712fedc3357b6fb99a2047e6f361883bc902215209cf879", func := "rickstead/ricksteadlaw4.DueLater", spec := "dueLater", unfollowed := true, recurses := true, apart := false }
def DueLaterSaid : Prop := dueLaterRow.holds Try.pinned (OpenSpec.ofChange dueLaterSpec)

/-- ITS FALSE NEIGHBOUR: 'it returns false'. Refute it at one input. -/
def dueLaterWrong : ChangeSpec := { name := "dueLater", fn := fun _ => fun
  | [d1, d2] => { results := [.lit (.bool false)], args := [d1, d2] }
  | _ => none }
def DueLaterWrongFalsely : Prop := dueLaterRow.holds Try.pinned (OpenSpec.ofChange dueLaterWrong)

/-- 'ricksteadlaw4.FlowBest': WHATEVER THE INPUT: true; the input reads as it did. -/
def flowBestSpec : ChangeSpec := { name := "flowBest", fn := fun _ => fun
  | [d1, d2] => { results := [.lit (.bool true)], args := [d1, d2] }
  | _ => none }
def flowBestRow : OpenClaim := { program := "ytbpggecholgdkaa", sum := "daef1412b7d537838712fedc3357b6fb99a2047e6f361883bc902215209cf879", func := "rickstead/ricksteadlaw4.FlowBest", spec := "flowBest", unfollowed := true, recurses := true, apart := false }
def FlowBestSaid : Prop := flowBestRow.holds Try.pinned (OpenSpec.ofChange flowBestSpec)

/-- ITS FALSE NEIGHBOUR: 'it returns false'. Refute it at one input. -/
def flowBestWrong : ChangeSpec := { name := "flowBest", fn := fun _ => fun
  | [d1, d2] => { results := [.lit (.bool false)], args := [d1, d2] }
  | _ => none }
def FlowBestWrongFalsely : Prop := flowBestRow.holds Try.pinned (OpenSpec.ofChange flowBestWrong)

/- THE SECOND FORM. 'bulk': how many values and letters a reading holds, each counted each time it is reached (what is shared counts as often as it is met; a slice's spare places count too). A statement '..UptoSaid' is the law's where the arguments, and the package variables that the reading takes, are together of bulk at most 1048576: NARROWER than '..Said'. Prove '..Said' where nothing that the law and all that it calls make is longer than what came in: it says more and counts as full. Else prove '..UptoSaid'. A law counts once. -/
mutual
def uptoBulk {H : Type} : DataW H → Nat
  | .lit (.string bytes) => bytes.length + 1
  | .lit _ => 1
  | .nil => 1
  | .ptr d => uptoBulk d + 1
  | .slice elems spare => uptoBulkAll elems + uptoBulkAll spare + 1
  | .agg parts => uptoBulkAll parts + 1
  | .iface _ d => uptoBulk d + 1
  | .map entries => uptoBulkEntries entries + 1
  | .held _ => 1
def uptoBulkAll {H : Type} : List (DataW H) → Nat
  | [] => 0
  | d :: r => uptoBulk d + uptoBulkAll r
def uptoBulkEntries {H : Type} : List (Lit × DataW H) → Nat
  | [] => 0
  | x :: r => uptoBulkEntry x + uptoBulkEntries r
def uptoBulkEntry {H : Type} : Lit × DataW H → Nat
  | (.string bytes, d) => bytes.length + uptoBulk d + 1
  | (_, d) => uptoBulk d + 1
 end
def uptoSmall : (H : Type) → List (DataW H) → Bool := fun _ ds => decide (uptoBulkAll ds ≤ 1048576)
def OpenSpec.upto (s : _root_.Go.ChangeSpec) : _root_.Go.OpenSpec := { _root_.Go.OpenSpec.ofChange s with cond := some uptoSmall }

/-- 'ricksteadlaw4.FlowTurned', WHERE WHAT IT READS IS OF BULK AT MOST 1048576: true; the input reads as it did. -/
def flowTurnedUptoRow : OpenClaim := { program := "ytbpggecholgdkaa", sum := "daef1412b7d537838712fedc3357b6fb99a2047e6f361883bc902215209cf879", func := "rickstead/ricksteadlaw4.FlowTurned", spec := "flowTurned", apart := false, narrowed := true }
def FlowTurnedUptoSaid : Prop := flowTurnedUptoRow.holds Try.pinned (OpenSpec.upto flowTurnedSpec)

/-- 'ricksteadlaw4.FlowBounds', WHERE WHAT IT READS IS OF BULK AT MOST 1048576: true; the input reads as it did. -/
def flowBoundsUptoRow : OpenClaim := { program := "ytbpggecholgdkaa", sum := "daef1412b7d537838712fedc3357b6fb99a2047e6f361883bc902215209cf879", func := "rickstead/ricksteadlaw4.FlowBounds", spec := "flowBounds", apart := false, narrowed := true }
def FlowBoundsUptoSaid : Prop := flowBoundsUptoRow.holds Try.pinned (OpenSpec.upto flowBoundsSpec)

/-- 'ricksteadlaw4.SmithBest', WHERE WHAT IT READS IS OF BULK AT MOST 1048576: true; the input reads as it did. -/
def smithBestUptoRow : OpenClaim := { program := "ytbpggecholgdkaa", sum := "daef1412b7d537838712fedc3357b6fb99a2047e6f361883bc902215209cf879", func := "rickstead/ricksteadlaw4.SmithBest", spec := "smithBest", unfollowed := true, recurses := true, apart := false, narrowed := true }
def SmithBestUptoSaid : Prop := smithBestUptoRow.holds Try.pinned (OpenSpec.upto smithBestSpec)

/-- 'ricksteadlaw4.SmithSwap', WHERE WHAT IT READS IS OF BULK AT MOST 1048576: true; the input reads as it did. -/
def smithSwapUptoRow : OpenClaim := { program := "ytbpggecholgdkaa", sum := "daef1412b7d537838712fedc3357b6fb99a2047e6f361883bc902215209cf879", func := "rickstead/ricksteadlaw4.SmithSwap", spec := "smithSwap", unfollowed := true, recurses := true, apart := false, narrowed := true }
def SmithSwapUptoSaid : Prop := smithSwapUptoRow.holds Try.pinned (OpenSpec.upto smithSwapSpec)

/-- 'ricksteadlaw4.SmithTurned', WHERE WHAT IT READS IS OF BULK AT MOST 1048576: true; the input reads as it did. -/
def smithTurnedUptoRow : OpenClaim := { program := "ytbpggecholgdkaa", sum := "daef1412b7d537838712fedc3357b6fb99a2047e6f361883bc902215209cf879", func := "rickstead/ricksteadlaw4.SmithTurned", spec := "smithTurned", unfollowed := true, recurses := true, apart := false, narrowed := true }
def SmithTurnedUptoSaid : Prop := smithTurnedUptoRow.holds Try.pinned (OpenSpec.upto smithTurnedSpec)

/-- 'ricksteadlaw4.DueBest', WHERE WHAT IT READS IS OF BULK AT MOST 1048576: true; the input reads as it did. -/
def dueBestUptoRow : OpenClaim := { program := "ytbpggecholgdkaa", sum := "daef1412b7d537838712fedc3357b6fb99a2047e6f361883bc902215209cf879", func := "rickstead/ricksteadlaw4.DueBest", spec := "dueBest", unfollowed := true, recurses := true, apart := false, narrowed := true }
def DueBestUptoSaid : Prop := dueBestUptoRow.holds Try.pinned (OpenSpec.upto dueBestSpec)

/-- 'ricksteadlaw4.DueSwap', WHERE WHAT IT READS IS OF BULK AT MOST 1048576: true; the input reads as it did. -/
def dueSwapUptoRow : OpenClaim := { program := "ytbpggecholgdkaa", sum := "daef1412b7d537838712fedc3357b6fb99a2047e6f361883bc902215209cf879", func := "rickstead/ricksteadlaw4.DueSwap", spec := "dueSwap", unfollowed := true, recurses := true, apart := false, narrowed := true }
def DueSwapUptoSaid : Prop := dueSwapUptoRow.holds Try.pinned (OpenSpec.upto dueSwapSpec)

/-- 'ricksteadlaw4.DueLater', WHERE WHAT IT READS IS OF BULK AT MOST 1048576: true; the input reads as it did. -/
def dueLaterUptoRow : OpenClaim := { program := "ytbpggecholgdkaa", sum := "daef1412b7d537838712fedc3357b6fb99a2047e6f361883bc902215209cf879", func := "rickstead/ricksteadlaw4.DueLater", spec := "dueLater", unfollowed := true, recurses := true, apart := false, narrowed := true }
def DueLaterUptoSaid : Prop := dueLaterUptoRow.holds Try.pinned (OpenSpec.upto dueLaterSpec)

/-- 'ricksteadlaw4.FlowBest', WHERE WHAT IT READS IS OF BULK AT MOST 1048576: true; the input reads as it did. -/
def flowBestUptoRow : OpenClaim := { program := "ytbpggecholgdkaa", sum := "daef1412b7d537838712fedc3357b6fb99a2047e6f361883bc902215209cf879", func := "rickstead/ricksteadlaw4.FlowBest", spec := "flowBest", unfollowed := true, recurses := true, apart := false, narrowed := true }
def FlowBestUptoSaid : Prop := flowBestUptoRow.holds Try.pinned (OpenSpec.upto flowBestSpec)

end Rows
end Go.Proofs.Ytbpggecholgdkaa
