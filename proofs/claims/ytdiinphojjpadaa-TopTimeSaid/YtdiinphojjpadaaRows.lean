/-
  No cell of these rows narrows 'for every input' (looked for: loops, veiled, ifaces, maps, wideKeys, modest, calm, conditions, laid).
  DERIVED. THE GIVEN ROWS OF THIS SEAT. 11 by the template 'for every input the law returns true; each argument reads behind the call as it read before'; 0 by the template 'total and deterministic' (their statements: YtdiinphojjpadaaTotals.lean).
  GIVEN WITH THE SEED: the statements are not yours to turn. If you find one false, say at which input.
  Laid BY PROGRAM, IN A SANDBOX (cutbox-rows.mjs): the forced cells as the released guide's own fill.sh prints them over the translation e305fba8c0ee3a31… (all of the seat's roots in one cut). By AI agents, Wed Nov 11 2026. No macro, syntax, notation, axiom, sorry.
-/
import Derived.Test.YtdiinphojjpadaaChecked
import GoSem.Claim
import GoSem.ClaimJoined
import GoSem.ClaimMapViews
import Derived.JoinedTies
import Derived.KernelRfl
namespace Go.Proofs.Ytdiinphojjpadaa
/- THE CELL 'sum', in the pinned program and in every row, IS THE sha256 OF THE DUMP (.gsa) THAT YtdiinphojjpadaaProg.lean LOADS. Nothing in Lean hashes anything: it is a label: what it is worth is what the hold of that sum in a sandbox is worth. -/
noncomputable def Try.pinned : Pinned := { name := "ytdiinphojjpadaa", sum := "e305fba8c0ee3a319bcd5be163f827061cafc63d7151a81330b046fd0fe7dd81", checked := Try.checked }
namespace Rows
def none {H : Type} : Left H := { results := [], args := [] }

/-- 'ricksteadlaw3.NarrowThree': WHATEVER THE INPUT: true; the input reads as it did. -/
def narrowThreeSpec : ChangeSpec := { name := "narrowThree", fn := fun _ => fun
  | [d1, d2, d3, d4] => { results := [.lit (.bool true)], args := [d1, d2, d3, d4] }
  | _ => none }
def narrowThreeRow : OpenClaim := { program := "ytdiinphojjpadaa", sum := "e305fba8c0ee3a319bcd5be163f827061cafc63d7151a81330b046fd0fe7dd81", func := "rickstead/ricksteadlaw3.NarrowThree", spec := "narrowThree", unfollowed := true, recurses := true, apart := false }
def NarrowThreeSaid : Prop := narrowThreeRow.holds Try.pinned (OpenSpec.ofChange narrowThreeSpec)

/-- ITS FALSE NEIGHBOUR: 'it returns false'. Refute it at one input. -/
def narrowThreeWrong : ChangeSpec := { name := "narrowThree", fn := fun _ => fun
  | [d1, d2, d3, d4] => { results := [.lit (.bool false)], args := [d1, d2, d3, d4] }
  | _ => none }
def NarrowThreeWrongFalsely : Prop := narrowThreeRow.holds Try.pinned (OpenSpec.ofChange narrowThreeWrong)

/-- 'ricksteadlaw3.NarrowAny': WHATEVER THE INPUT: true; the input reads as it did. -/
def narrowAnySpec : ChangeSpec := { name := "narrowAny", fn := fun _ => fun
  | [d1, d2] => { results := [.lit (.bool true)], args := [d1, d2] }
  | _ => none }
def narrowAnyRow : OpenClaim := { program := "ytdiinphojjpadaa", sum := "e305fba8c0ee3a319bcd5be163f827061cafc63d7151a81330b046fd0fe7dd81", func := "rickstead/ricksteadlaw3.NarrowAny", spec := "narrowAny", unfollowed := true, recurses := true, apart := false }
def NarrowAnySaid : Prop := narrowAnyRow.holds Try.pinned (OpenSpec.ofChange narrowAnySpec)

/-- ITS FALSE NEIGHBOUR: 'it returns false'. Refute it at one input. -/
def narrowAnyWrong : ChangeSpec := { name := "narrowAny", fn := fun _ => fun
  | [d1, d2] => { results := [.lit (.bool false)], args := [d1, d2] }
  | _ => none }
def NarrowAnyWrongFalsely : Prop := narrowAnyRow.holds Try.pinned (OpenSpec.ofChange narrowAnyWrong)

/-- 'ricksteadtop.TopKruskal': WHATEVER THE INPUT: true; the input reads as it did. -/
def topKruskalSpec : ChangeSpec := { name := "topKruskal", fn := fun _ => fun
  | [d] => { results := [.lit (.bool true)], args := [d] }
  | _ => none }
def topKruskalRow : OpenClaim := { program := "ytdiinphojjpadaa", sum := "e305fba8c0ee3a319bcd5be163f827061cafc63d7151a81330b046fd0fe7dd81", func := "rickstead/ricksteadtop.TopKruskal", spec := "topKruskal", unfollowed := true, recurses := true, apart := false }
def TopKruskalSaid : Prop := topKruskalRow.holds Try.pinned (OpenSpec.ofChange topKruskalSpec)

/-- ITS FALSE NEIGHBOUR: 'it returns false'. Refute it at one input. -/
def topKruskalWrong : ChangeSpec := { name := "topKruskal", fn := fun _ => fun
  | [d] => { results := [.lit (.bool false)], args := [d] }
  | _ => none }
def TopKruskalWrongFalsely : Prop := topKruskalRow.holds Try.pinned (OpenSpec.ofChange topKruskalWrong)

/-- 'ricksteadtop.TopTime': WHATEVER THE INPUT: true; the input reads as it did. -/
def topTimeSpec : ChangeSpec := { name := "topTime", fn := fun _ => fun
  | [d1, d2] => { results := [.lit (.bool true)], args := [d1, d2] }
  | _ => none }
def topTimeRow : OpenClaim := { program := "ytdiinphojjpadaa", sum := "e305fba8c0ee3a319bcd5be163f827061cafc63d7151a81330b046fd0fe7dd81", func := "rickstead/ricksteadtop.TopTime", spec := "topTime", unfollowed := true, recurses := true, apart := false }
def TopTimeSaid : Prop := topTimeRow.holds Try.pinned (OpenSpec.ofChange topTimeSpec)

/-- ITS FALSE NEIGHBOUR: 'it returns false'. Refute it at one input. -/
def topTimeWrong : ChangeSpec := { name := "topTime", fn := fun _ => fun
  | [d1, d2] => { results := [.lit (.bool false)], args := [d1, d2] }
  | _ => none }
def TopTimeWrongFalsely : Prop := topTimeRow.holds Try.pinned (OpenSpec.ofChange topTimeWrong)

/-- 'ricksteadlaw4.MooreAll': WHATEVER THE INPUT: true; the input reads as it did. -/
def mooreAllSpec : ChangeSpec := { name := "mooreAll", fn := fun _ => fun
  | [d] => { results := [.lit (.bool true)], args := [d] }
  | _ => none }
def mooreAllRow : OpenClaim := { program := "ytdiinphojjpadaa", sum := "e305fba8c0ee3a319bcd5be163f827061cafc63d7151a81330b046fd0fe7dd81", func := "rickstead/ricksteadlaw4.MooreAll", spec := "mooreAll", unfollowed := true, recurses := true, apart := false }
def MooreAllSaid : Prop := mooreAllRow.holds Try.pinned (OpenSpec.ofChange mooreAllSpec)

/-- ITS FALSE NEIGHBOUR: 'it returns false'. Refute it at one input. -/
def mooreAllWrong : ChangeSpec := { name := "mooreAll", fn := fun _ => fun
  | [d] => { results := [.lit (.bool false)], args := [d] }
  | _ => none }
def MooreAllWrongFalsely : Prop := mooreAllRow.holds Try.pinned (OpenSpec.ofChange mooreAllWrong)

/-- 'ricksteadlaw3.SpanRing': WHATEVER THE INPUT: true; the input reads as it did. -/
def spanRingSpec : ChangeSpec := { name := "spanRing", fn := fun _ => fun
  | [d1, d2] => { results := [.lit (.bool true)], args := [d1, d2] }
  | _ => none }
def spanRingRow : OpenClaim := { program := "ytdiinphojjpadaa", sum := "e305fba8c0ee3a319bcd5be163f827061cafc63d7151a81330b046fd0fe7dd81", func := "rickstead/ricksteadlaw3.SpanRing", spec := "spanRing", unfollowed := true, recurses := true, apart := false }
def SpanRingSaid : Prop := spanRingRow.holds Try.pinned (OpenSpec.ofChange spanRingSpec)

/-- ITS FALSE NEIGHBOUR: 'it returns false'. Refute it at one input. -/
def spanRingWrong : ChangeSpec := { name := "spanRing", fn := fun _ => fun
  | [d1, d2] => { results := [.lit (.bool false)], args := [d1, d2] }
  | _ => none }
def SpanRingWrongFalsely : Prop := spanRingRow.holds Try.pinned (OpenSpec.ofChange spanRingWrong)

/-- 'ricksteadlaw4.MooreMost': WHATEVER THE INPUT: true; the input reads as it did. -/
def mooreMostSpec : ChangeSpec := { name := "mooreMost", fn := fun _ => fun
  | [d1, d2] => { results := [.lit (.bool true)], args := [d1, d2] }
  | _ => none }
def mooreMostRow : OpenClaim := { program := "ytdiinphojjpadaa", sum := "e305fba8c0ee3a319bcd5be163f827061cafc63d7151a81330b046fd0fe7dd81", func := "rickstead/ricksteadlaw4.MooreMost", spec := "mooreMost", unfollowed := true, recurses := true, apart := false }
def MooreMostSaid : Prop := mooreMostRow.holds Try.pinned (OpenSpec.ofChange mooreMostSpec)

/-- ITS FALSE NEIGHBOUR: 'it returns false'. Refute it at one input. -/
def mooreMostWrong : ChangeSpec := { name := "mooreMost", fn := fun _ => fun
  | [d1, d2] => { results := [.lit (.bool false)], args := [d1, d2] }
  | _ => none }
def MooreMostWrongFalsely : Prop := mooreMostRow.holds Try.pinned (OpenSpec.ofChange mooreMostWrong)

/-- 'ricksteadlaw4.MooreFewer': WHATEVER THE INPUT: true; the input reads as it did. -/
def mooreFewerSpec : ChangeSpec := { name := "mooreFewer", fn := fun _ => fun
  | [d1, d2, d3] => { results := [.lit (.bool true)], args := [d1, d2, d3] }
  | _ => none }
def mooreFewerRow : OpenClaim := { program := "ytdiinphojjpadaa", sum := "e305fba8c0ee3a319bcd5be163f827061cafc63d7151a81330b046fd0fe7dd81", func := "rickstead/ricksteadlaw4.MooreFewer", spec := "mooreFewer", unfollowed := true, recurses := true, apart := false }
def MooreFewerSaid : Prop := mooreFewerRow.holds Try.pinned (OpenSpec.ofChange mooreFewerSpec)

/-- ITS FALSE NEIGHBOUR: 'it returns false'. Refute it at one input. -/
def mooreFewerWrong : ChangeSpec := { name := "mooreFewer", fn := fun _ => fun
  | [d1, d2, d3] => { results := [.lit (.bool false)], args := [d1, d2, d3] }
  | _ => none }
def MooreFewerWrongFalsely : Prop := mooreFewerRow.holds Try.pinned (OpenSpec.ofChange mooreFewerWrong)

/-- 'ricksteadlaw3.NarrowTree': WHATEVER THE INPUT: true; the input reads as it did. -/
def narrowTreeSpec : ChangeSpec := { name := "narrowTree", fn := fun _ => fun
  | [d1, d2, d3] => { results := [.lit (.bool true)], args := [d1, d2, d3] }
  | _ => none }
def narrowTreeRow : OpenClaim := { program := "ytdiinphojjpadaa", sum := "e305fba8c0ee3a319bcd5be163f827061cafc63d7151a81330b046fd0fe7dd81", func := "rickstead/ricksteadlaw3.NarrowTree", spec := "narrowTree", unfollowed := true, recurses := true, apart := false }
def NarrowTreeSaid : Prop := narrowTreeRow.holds Try.pinned (OpenSpec.ofChange narrowTreeSpec)

/-- ITS FALSE NEIGHBOUR: 'it returns false'. Refute it at one input. -/
def narrowTreeWrong : ChangeSpec := { name := "narrowTree", fn := fun _ => fun
  | [d1, d2, d3] => { results := [.lit (.bool false)], args := [d1, d2, d3] }
  | _ => none }
def NarrowTreeWrongFalsely : Prop := narrowTreeRow.holds Try.pinned (OpenSpec.ofChange narrowTreeWrong)

/-- 'ricksteadlaw3.SpanCut': WHATEVER THE INPUT: true; the input reads as it did. -/
def spanCutSpec : ChangeSpec := { name := "spanCut", fn := fun _ => fun
  | [d1, d2] => { results := [.lit (.bool true)], args := [d1, d2] }
  | _ => none }
def spanCutRow : OpenClaim := { program := "ytdiinphojjpadaa", sum := "e305fba8c0ee3a319bcd5be163f827061cafc63d7151a81330b046fd0fe7dd81", func := "rickstead/ricksteadlaw3.SpanCut", spec := "spanCut", unfollowed := true, recurses := true, apart := false }
def SpanCutSaid : Prop := spanCutRow.holds Try.pinned (OpenSpec.ofChange spanCutSpec)

/-- ITS FALSE NEIGHBOUR: 'it returns false'. Refute it at one input. -/
def spanCutWrong : ChangeSpec := { name := "spanCut", fn := fun _ => fun
  | [d1, d2] => { results := [.lit (.bool false)], args := [d1, d2] }
  | _ => none }
def SpanCutWrongFalsely : Prop := spanCutRow.holds Try.pinned (OpenSpec.ofChange spanCutWrong)

/-- 'ricksteadlaw3.SpanThree': WHATEVER THE INPUT: true; the input reads as it did. -/
def spanThreeSpec : ChangeSpec := { name := "spanThree", fn := fun _ => fun
  | [d] => { results := [.lit (.bool true)], args := [d] }
  | _ => none }
def spanThreeRow : OpenClaim := { program := "ytdiinphojjpadaa", sum := "e305fba8c0ee3a319bcd5be163f827061cafc63d7151a81330b046fd0fe7dd81", func := "rickstead/ricksteadlaw3.SpanThree", spec := "spanThree", unfollowed := true, recurses := true, apart := false }
def SpanThreeSaid : Prop := spanThreeRow.holds Try.pinned (OpenSpec.ofChange spanThreeSpec)

/-- ITS FALSE NEIGHBOUR: 'it returns false'. Refute it at one input. -/
def spanThreeWrong : ChangeSpec := { name := "spanThree", fn := fun _ => fun
  | [d] => { results := [.lit (.bool false)], args := [d] }
  | _ => none }
def SpanThreeWrongFalsely : Prop := spanThreeRow.holds Try.pinned (OpenSpec.ofChange spanThreeWrong)

/- THE SECOND FORM. 'bulk': how many values and letters a reading holds, each counted each time it is reached (what is shared counts as often as it is met; a slice's spare places count too). A statement '..UptoSaid' is the law's where the arguments, and the package variables that the reading takes, are together of bulk at most 1048576: NARROWER than '..Said'. Prove '..Said' where nothing that the law and all that it calls make is longer than what came in: it says more and counts as full. Else prove '..UptoSaid'. A law counts once. -/
mutual
def uptoBulk {H : Type} : DataW H → Nat
  | .lit (.string bytes) => bytes.length + 1
  | .lit _ => 1
  | .nil => 1
  | .ptr d => uptoBulk d + 1
  | .slice elems spare => uptoBulkAll elems + uptoBulkAll spare + 1
  | .agg parts => uptoBulkAll parts + 1
  | .iface _ d => uptoBulk d + 1
  | .map entries => uptoBulkEntries entries + 1
  | .held _ => 1
def uptoBulkAll {H : Type} : List (DataW H) → Nat
  | [] => 0
  | d :: r => uptoBulk d + uptoBulkAll r
def uptoBulkEntries {H : Type} : List (Lit × DataW H) → Nat
  | [] => 0
  | x :: r => uptoBulkEntry x + uptoBulkEntries r
def uptoBulkEntry {H : Type} : Lit × DataW H → Nat
  | (.string bytes, d) => bytes.length + uptoBulk d + 1
  | (_, d) => uptoBulk d + 1
 end
def uptoSmall : (H : Type) → List (DataW H) → Bool := fun _ ds => decide (uptoBulkAll ds ≤ 1048576)
def OpenSpec.upto (s : _root_.Go.ChangeSpec) : _root_.Go.OpenSpec := { _root_.Go.OpenSpec.ofChange s with cond := some uptoSmall }

/-- 'ricksteadlaw3.NarrowThree', WHERE WHAT IT READS IS OF BULK AT MOST 1048576: true; the input reads as it did. -/
def narrowThreeUptoRow : OpenClaim := { program := "ytdiinphojjpadaa", sum := "e305fba8c0ee3a319bcd5be163f827061cafc63d7151a81330b046fd0fe7dd81", func := "rickstead/ricksteadlaw3.NarrowThree", spec := "narrowThree", unfollowed := true, recurses := true, apart := false, narrowed := true }
def NarrowThreeUptoSaid : Prop := narrowThreeUptoRow.holds Try.pinned (OpenSpec.upto narrowThreeSpec)

/-- 'ricksteadlaw3.NarrowAny', WHERE WHAT IT READS IS OF BULK AT MOST 1048576: true; the input reads as it did. -/
def narrowAnyUptoRow : OpenClaim := { program := "ytdiinphojjpadaa", sum := "e305fba8c0ee3a319bcd5be163f827061cafc63d7151a81330b046fd0fe7dd81", func := "rickstead/ricksteadlaw3.NarrowAny", spec := "narrowAny", unfollowed := true, recurses := true, apart := false, narrowed := true }
def NarrowAnyUptoSaid : Prop := narrowAnyUptoRow.holds Try.pinned (OpenSpec.upto narrowAnySpec)

/-- 'ricksteadtop.TopKruskal', WHERE WHAT IT READS IS OF BULK AT MOST 1048576: true; the input reads as it did. -/
def topKruskalUptoRow : OpenClaim := { program := "ytdiinphojjpadaa", sum := "e305fba8c0ee3a319bcd5be163f827061cafc63d7151a81330b046fd0fe7dd81", func := "rickstead/ricksteadtop.TopKruskal", spec := "topKruskal", unfollowed := true, recurses := true, apart := false, narrowed := true }
def TopKruskalUptoSaid : Prop := topKruskalUptoRow.holds Try.pinned (OpenSpec.upto topKruskalSpec)

/-- 'ricksteadtop.TopTime', WHERE WHAT IT READS IS OF BULK AT MOST 1048576: true; the input reads as it did. -/
def topTimeUptoRow : OpenClaim := { program := "ytdiinphojjpadaa", sum := "e305fba8c0ee3a319bcd5be163f827061cafc63d7151a81330b046fd0fe7dd81", func := "rickstead/ricksteadtop.TopTime", spec := "topTime", unfollowed := true, recurses := true, apart := false, narrowed := true }
def TopTimeUptoSaid : Prop := topTimeUptoRow.holds Try.pinned (OpenSpec.upto topTimeSpec)

/-- 'ricksteadlaw4.MooreAll', WHERE WHAT IT READS IS OF BULK AT MOST 1048576: true; the input reads as it did. -/
def mooreAllUptoRow : OpenClaim := { program := "ytdiinphojjpadaa", sum := "e305fba8c0ee3a319bcd5be163f827061cafc63d7151a81330b046fd0fe7dd81", func := "rickstead/ricksteadlaw4.MooreAll", spec := "mooreAll", unfollowed := true, recurses := true, apart := false, narrowed := true }
def MooreAllUptoSaid : Prop := mooreAllUptoRow.holds Try.pinned (OpenSpec.upto mooreAllSpec)

/-- 'ricksteadlaw3.SpanRing', WHERE WHAT IT READS IS OF BULK AT MOST 1048576: true; the input reads as it did. -/
def spanRingUptoRow : OpenClaim := { program := "ytdiinphojjpadaa", sum := "e305fba8c0ee3a319bcd5be163f827061cafc63d7151a81330b046fd0fe7dd81", func := "rickstead/ricksteadlaw3.SpanRing", spec := "spanRing", unfollowed := true, recurses := true, apart := false, narrowed := true }
def SpanRingUptoSaid : Prop := spanRingUptoRow.holds Try.pinned (OpenSpec.upto spanRingSpec)

/-- 'ricksteadlaw4.MooreMost', WHERE WHAT IT READS IS OF BULK AT MOST 1048576: true; the input reads as it did. -/
def mooreMostUptoRow : OpenClaim := { program := "ytdiinphojjpadaa", sum := "e305fba8c0ee3a319bcd5be163f827061cafc63d7151a81330b046fd0fe7dd81", func := "rickstead/ricksteadlaw4.MooreMost", spec := "mooreMost", unfollowed := true, recurses := true, apart := false, narrowed := true }
def MooreMostUptoSaid : Prop := mooreMostUptoRow.holds Try.pinned (OpenSpec.upto mooreMostSpec)

/-- 'ricksteadlaw4.MooreFewer', WHERE WHAT IT READS IS OF BULK AT MOST 1048576: true; the input reads as it did. -/
def mooreFewerUptoRow : OpenClaim := { program := "ytdiinphojjpadaa", sum := "e305fba8c0ee3a319bcd5be163f827061cafc63d7151a81330b046fd0fe7dd81", func := "rickstead/ricksteadlaw4.MooreFewer", spec := "mooreFewer", unfollowed := true, recurses := true, apart := false, narrowed := true }
def MooreFewerUptoSaid : Prop := mooreFewerUptoRow.holds Try.pinned (OpenSpec.upto mooreFewerSpec)

/-- 'ricksteadlaw3.NarrowTree', WHERE WHAT IT READS IS OF BULK AT MOST 1048576: true; the input reads as it did. -/
def narrowTreeUptoRow : OpenClaim := { program := "ytdiinphojjpadaa", sum := "e305fba8c0ee3a319bcd5be163f827061cafc63d7151a81330b046fd0fe7dd81", func := "rickstead/ricksteadlaw3.NarrowTree", spec := "narrowTree", unfollowed := true, recurses := true, apart := false, narrowed := true }
def NarrowTreeUptoSaid : Prop := narrowTreeUptoRow.holds Try.pinned (OpenSpec.upto narrowTreeSpec)

/-- 'ricksteadlaw3.SpanCut', WHERE WHAT IT READS IS OF BULK AT MOST 1048576: true; the input reads as it did. -/
def spanCutUptoRow : OpenClaim := { program := "ytdiinphojjpadaa", sum := "e305fba8c0ee3a319bcd5be163f827061cafc63d7151a81330b046fd0fe7dd81", func := "rickstead/ricksteadlaw3.SpanCut", spec := "spanCut", unfollowed := true, recurses := true, apart := false, narrowed := true }
def SpanCutUptoSaid : Prop := spanCutUptoRow.holds Try.pinned (OpenSpec.upto spanCutSpec)

/-- 'ricksteadlaw3.SpanThree', WHERE WHAT IT READS IS OF BULK AT MOST 1048576: true; the input reads as it did. -/
def spanThreeUptoRow : OpenClaim := { program := "ytdiinphojjpadaa", sum := "e305fba8c0ee3a319bcd5be163f827061cafc63d7151a81330b046fd0fe7dd81", func := "rickstead/ricksteadlaw3.SpanThree", spec := "spanThree", unfollowed := true, recurses := true, apart := false, narrowed := true }
def SpanThreeUptoSaid : Prop := spanThreeUptoRow.holds Try.pinned (OpenSpec.upto spanThreeSpec)

end Rows
end Go.Proofs.Ytdiinphojjpadaa
