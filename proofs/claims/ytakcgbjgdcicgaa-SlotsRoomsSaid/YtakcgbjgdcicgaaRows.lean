/-
  No cell of these rows narrows 'for every input' (looked for: loops, veiled, ifaces, maps, wideKeys, modest, calm, conditions, laid).
  DERIVED. THE GIVEN ROWS OF THIS SEAT. 8 by the template 'for every input the law returns true; each argument reads behind the call as it read before'; 0 by the template 'total and deterministic' (their statements: YtakcgbjgdcicgaaTotals.lean).
  GIVEN WITH THE SEED: the statements are not yours to turn. If you find one false, say at which input.
  Laid BY PROGRAM, IN A SANDBOX (cutbox-rows.mjs): the forced cells as the released guide's own fill.sh prints them over the translation b8e9a3fd3f2fd11a… (all of the seat's roots in one cut). By AI agents, Wed Nov 11 2026. No macro, syntax, notation, axiom, sorry.
-/
import Derived.Test.YtakcgbjgdcicgaaChecked
import GoSem.Claim
import GoSem.ClaimJoined
import GoSem.ClaimMapViews
import Derived.JoinedTies
import Derived.KernelRfl
namespace Go.Proofs.Ytakcgbjgdcicgaa
/- THE CELL 'sum', in the pinned program and in every row, IS THE sha256 OF THE DUMP (.gsa) THAT YtakcgbjgdcicgaaProg.lean LOADS. Nothing in Lean hashes anything: it is a label: what it is worth is what the hold of that sum in a sandbox is worth. -/
noncomputable def Try.pinned : Pinned := { name := "ytakcgbjgdcicgaa", sum := "b8e9a3fd3f2fd11aeff00d975efd2d28b7b19e3e760f5e642e8522058f01bfcb", checked := Try.checked }
namespace Rows
def none {H : Type} : Left H := { results := [], args := [] }

/-- 'ricksteadlaw4.SlotsMost': WHATEVER THE INPUT: true; the input reads as it did. -/
def slotsMostSpec : ChangeSpec := { name := "slotsMost", fn := fun _ => fun
  | [d1, d2] => { results := [.lit (.bool true)], args := [d1, d2] }
  | _ => none }
def slotsMostRow : OpenClaim := { program := "ytakcgbjgdcicgaa", sum := "b8e9a3fd3f2fd11aeff00d975efd2d28b7b19e3e760f5e642e8522058f01bfcb", func := "rickstead/ricksteadlaw4.SlotsMost", spec := "slotsMost", unfollowed := true, recurses := true, apart := false }
def SlotsMostSaid : Prop := slotsMostRow.holds Try.pinned (OpenSpec.ofChange slotsMostSpec)

/-- ITS FALSE NEIGHBOUR: 'it returns false'. Refute it at one input. -/
def slotsMostWrong : ChangeSpec := { name := "slotsMost", fn := fun _ => fun
  | [d1, d2] => { results := [.lit (.bool false)], args := [d1, d2] }
  | _ => none }
def SlotsMostWrongFalsely : Prop := slotsMostRow.holds Try.pinned (OpenSpec.ofChange slotsMostWrong)

/-- 'ricksteadlaw4.SlotsStab': WHATEVER THE INPUT: true; the input reads as it did. -/
def slotsStabSpec : ChangeSpec := { name := "slotsStab", fn := fun _ => fun
  | [d] => { results := [.lit (.bool true)], args := [d] }
  | _ => none }
def slotsStabRow : OpenClaim := { program := "ytakcgbjgdcicgaa", sum := "b8e9a3fd3f2fd11aeff00d975efd2d28b7b19e3e760f5e642e8522058f01bfcb", func := "rickstead/ricksteadlaw4.SlotsStab", spec := "slotsStab", unfollowed := true, recurses := true, apart := false }
def SlotsStabSaid : Prop := slotsStabRow.holds Try.pinned (OpenSpec.ofChange slotsStabSpec)

/-- ITS FALSE NEIGHBOUR: 'it returns false'. Refute it at one input. -/
def slotsStabWrong : ChangeSpec := { name := "slotsStab", fn := fun _ => fun
  | [d] => { results := [.lit (.bool false)], args := [d] }
  | _ => none }
def SlotsStabWrongFalsely : Prop := slotsStabRow.holds Try.pinned (OpenSpec.ofChange slotsStabWrong)

/-- 'ricksteadlaw4.SlotsOther': WHATEVER THE INPUT: true; the input reads as it did. -/
def slotsOtherSpec : ChangeSpec := { name := "slotsOther", fn := fun _ => fun
  | [d1, d2] => { results := [.lit (.bool true)], args := [d1, d2] }
  | _ => none }
def slotsOtherRow : OpenClaim := { program := "ytakcgbjgdcicgaa", sum := "b8e9a3fd3f2fd11aeff00d975efd2d28b7b19e3e760f5e642e8522058f01bfcb", func := "rickstead/ricksteadlaw4.SlotsOther", spec := "slotsOther", unfollowed := true, recurses := true, apart := false }
def SlotsOtherSaid : Prop := slotsOtherRow.holds Try.pinned (OpenSpec.ofChange slotsOtherSpec)

/-- ITS FALSE NEIGHBOUR: 'it returns false'. Refute it at one input. -/
def slotsOtherWrong : ChangeSpec := { name := "slotsOther", fn := fun _ => fun
  | [d1, d2] => { results := [.lit (.bool false)], args := [d1, d2] }
  | _ => none }
def SlotsOtherWrongFalsely : Prop := slotsOtherRow.holds Try.pinned (OpenSpec.ofChange slotsOtherWrong)

/-- 'ricksteadlaw4.SlotsMore': WHATEVER THE INPUT: true; the input reads as it did. -/
def slotsMoreSpec : ChangeSpec := { name := "slotsMore", fn := fun _ => fun
  | [d1, d2] => { results := [.lit (.bool true)], args := [d1, d2] }
  | _ => none }
def slotsMoreRow : OpenClaim := { program := "ytakcgbjgdcicgaa", sum := "b8e9a3fd3f2fd11aeff00d975efd2d28b7b19e3e760f5e642e8522058f01bfcb", func := "rickstead/ricksteadlaw4.SlotsMore", spec := "slotsMore", unfollowed := true, recurses := true, apart := false }
def SlotsMoreSaid : Prop := slotsMoreRow.holds Try.pinned (OpenSpec.ofChange slotsMoreSpec)

/-- ITS FALSE NEIGHBOUR: 'it returns false'. Refute it at one input. -/
def slotsMoreWrong : ChangeSpec := { name := "slotsMore", fn := fun _ => fun
  | [d1, d2] => { results := [.lit (.bool false)], args := [d1, d2] }
  | _ => none }
def SlotsMoreWrongFalsely : Prop := slotsMoreRow.holds Try.pinned (OpenSpec.ofChange slotsMoreWrong)

/-- 'ricksteadlaw4.SlotsRooms': WHATEVER THE INPUT: true; the input reads as it did. -/
def slotsRoomsSpec : ChangeSpec := { name := "slotsRooms", fn := fun _ => fun
  | [d1, d2] => { results := [.lit (.bool true)], args := [d1, d2] }
  | _ => none }
def slotsRoomsRow : OpenClaim := { program := "ytakcgbjgdcicgaa", sum := "b8e9a3fd3f2fd11aeff00d975efd2d28b7b19e3e760f5e642e8522058f01bfcb", func := "rickstead/ricksteadlaw4.SlotsRooms", spec := "slotsRooms", unfollowed := true, recurses := true, apart := false }
def SlotsRoomsSaid : Prop := slotsRoomsRow.holds Try.pinned (OpenSpec.ofChange slotsRoomsSpec)

/-- ITS FALSE NEIGHBOUR: 'it returns false'. Refute it at one input. -/
def slotsRoomsWrong : ChangeSpec := { name := "slotsRooms", fn := fun _ => fun
  | [d1, d2] => { results := [.lit (.bool false)], args := [d1, d2] }
  | _ => none }
def SlotsRoomsWrongFalsely : Prop := slotsRoomsRow.holds Try.pinned (OpenSpec.ofChange slotsRoomsWrong)

/-- 'ricksteadlaw4.MooreAll': WHATEVER THE INPUT: true; the input reads as it did. -/
def mooreAllSpec : ChangeSpec := { name := "mooreAll", fn := fun _ => fun
  | [d] => { results := [.lit (.bool true)], args := [d] }
  | _ => none }
def mooreAllRow : OpenClaim := { program := "ytakcgbjgdcicgaa", sum := "b8e9a3fd3f2fd11aeff00d975efd2d28b7b19e3e760f5e642e8522058f01bfcb", func := "rickstead/ricksteadlaw4.MooreAll", spec := "mooreAll", unfollowed := true, recurses := true, apart := false }
def MooreAllSaid : Prop := mooreAllRow.holds Try.pinned (OpenSpec.ofChange mooreAllSpec)

/-- ITS FALSE NEIGHBOUR: 'it returns false'. Refute it at one input. -/
def mooreAllWrong : ChangeSpec := { name := "mooreAll", fn := fun _ => fun
  | [d] => { results := [.lit (.bool false)], args := [d] }
  | _ => none }
def MooreAllWrongFalsely : Prop := mooreAllRow.holds Try.pinned (OpenSpec.ofChange mooreAllWrong)

/-- 'ricksteadlaw4.MooreMost': WHATEVER THE INPUT: true; the input reads as it did. -/
def mooreMostSpec : ChangeSpec := { name := "mooreMost", fn := fun _ => fun
  | [d1, d2] => { results := [.lit (.bool true)], args := [d1, d2] }
  | _ => none }
def mooreMostRow : OpenClaim := { program := "ytakcgbjgdcicgaa", sum := "b8e9a3fd3f2fd11aeff00d975efd2d28b7b19e3e760f5e642e8522058f01bfcb", func := "rickstead/ricksteadlaw4.MooreMost", spec := "mooreMost", unfollowed := true, recurses := true, apart := false }
def MooreMostSaid : Prop := mooreMostRow.holds Try.pinned (OpenSpec.ofChange mooreMostSpec)

/-- ITS FALSE NEIGHBOUR: 'it returns false'. Refute it at one input. -/
def mooreMostWrong : ChangeSpec := { name := "mooreMost", fn := fun _ => fun
  | [d1, d2] => { results := [.lit (.bool false)], args := [d1, d2] }
  | _ => none }
def MooreMostWrongFalsely : Prop := mooreMostRow.holds Try.pinned (OpenSpec.ofChange mooreMostWrong)

/-- 'ricksteadlaw4.MooreFewer': WHATEVER THE INPUT: true; the input reads as it did. -/
def mooreFewerSpec : ChangeSpec := { name := "mooreFewer", fn := fun _ => fun
  | [d1, d2, d3] => { results := [.lit (.bool true)], args := [d1, d2, d3] }
  | _ => none }
def mooreFewerRow : OpenClaim := { program := "ytakcgbjgdcicgaa", sum := "b8e9a3fd3f2fd11aeff00d975efd2d28b7b19e3e760f5e642e8522058f01bfcb", func := "rickstead/ricksteadlaw4.MooreFewer", spec := "mooreFewer", unfollowed := true, recurses := true, apart := false }
def MooreFewerSaid : Prop := mooreFewerRow.holds Try.pinned (OpenSpec.ofChange mooreFewerSpec)

/-- ITS FALSE NEIGHBOUR: 'it returns false'. Refute it at one input. -/
def mooreFewerWrong : ChangeSpec := { name := "mooreFewer", fn := fun _ => fun
  | [d1, d2, d3] => { results := [.lit (.bool false)], args := [d1, d2, d3] }
  | _ => none }
def MooreFewerWrongFalsely : Prop := mooreFewerRow.holds Try.pinned (OpenSpec.ofChange mooreFewerWrong)

/- THE SECOND FORM. 'bulk': how many values and letters a reading holds, each counted each time it is reached (what is shared counts as often as it is met; a slice's spare places count too). A statement '..UptoSaid' is the law's where the arguments, and the package variables that the reading takes, are together of bulk at most 1048576: NARROWER than '..Said'. Prove '..Said' where nothing that the law and all that it calls make is longer than what came in: it says more and counts as full. Else prove '..UptoSaid'. A law counts once. -/
mutual
def uptoBulk {H : Type} : DataW H → Nat
  | .lit (.string bytes) => bytes.length + 1
  | .lit _ => 1
  | .nil => 1
  | .ptr d => uptoBulk d + 1
  | .slice elems spare => uptoBulkAll elems + uptoBulkAll spare + 1
  | .agg parts => uptoBulkAll parts + 1
  | .iface _ d => uptoBulk d + 1
  | .map entries => uptoBulkEntries entries + 1
  | .held _ => 1
def uptoBulkAll {H : Type} : List (DataW H) → Nat
  | [] => 0
  | d :: r => uptoBulk d + uptoBulkAll r
def uptoBulkEntries {H : Type} : List (Lit × DataW H) → Nat
  | [] => 0
  | x :: r => uptoBulkEntry x + uptoBulkEntries r
def uptoBulkEntry {H : Type} : Lit × DataW H → Nat
  | (.string bytes, d) => bytes.length + uptoBulk d + 1
  | (_, d) => uptoBulk d + 1
 end
def uptoSmall : (H : Type) → List (DataW H) → Bool := fun _ ds => decide (uptoBulkAll ds ≤ 1048576)
def OpenSpec.upto (s : _root_.Go.ChangeSpec) : _root_.Go.OpenSpec := { _root_.Go.OpenSpec.ofChange s with cond := some uptoSmall }

/-- 'ricksteadlaw4.SlotsMost', WHERE WHAT IT READS IS OF BULK AT MOST 1048576: true; the input reads as it did. -/
def slotsMostUptoRow : OpenClaim := { program := "ytakcgbjgdcicgaa", sum := "b8e9a3fd3f2fd11aeff00d975efd2d28b7b19e3e760f5e642e8522058f01bfcb", func := "rickstead/ricksteadlaw4.SlotsMost", spec := "slotsMost", unfollowed := true, recurses := true, apart := false, narrowed := true }
def SlotsMostUptoSaid : Prop := slotsMostUptoRow.holds Try.pinned (OpenSpec.upto slotsMostSpec)

/-- 'ricksteadlaw4.SlotsStab', WHERE WHAT IT READS IS OF BULK AT MOST 1048576: true; the input reads as it did. -/
def slotsStabUptoRow : OpenClaim := { program := "ytakcgbjgdcicgaa", sum := "b8e9a3fd3f2fd11aeff00d975efd2d28b7b19e3e760f5e642e8522058f01bfcb", func := "rickstead/ricksteadlaw4.SlotsStab", spec := "slotsStab", unfollowed := true, recurses := true, apart := false, narrowed := true }
def SlotsStabUptoSaid : Prop := slotsStabUptoRow.holds Try.pinned (OpenSpec.upto slotsStabSpec)

/-- 'ricksteadlaw4.SlotsOther', WHERE WHAT IT READS IS OF BULK AT MOST 1048576: true; the input reads as it did. -/
def slotsOtherUptoRow : OpenClaim := { program := "ytakcgbjgdcicgaa", sum := "b8e9a3fd3f2fd11aeff00d975efd2d28b7b19e3e760f5e642e8522058f01bfcb", func := "rickstead/ricksteadlaw4.SlotsOther", spec := "slotsOther", unfollowed := true, recurses := true, apart := false, narrowed := true }
def SlotsOtherUptoSaid : Prop := slotsOtherUptoRow.holds Try.pinned (OpenSpec.upto slotsOtherSpec)

/-- 'ricksteadlaw4.SlotsMore', WHERE WHAT IT READS IS OF BULK AT MOST 1048576: true; the input reads as it did. -/
def slotsMoreUptoRow : OpenClaim := { program := "ytakcgbjgdcicgaa", sum := "b8e9a3fd3f2fd11aeff00d975efd2d28b7b19e3e760f5e642e8522058f01bfcb", func := "rickstead/ricksteadlaw4.SlotsMore", spec := "slotsMore", unfollowed := true, recurses := true, apart := false, narrowed := true }
def SlotsMoreUptoSaid : Prop := slotsMoreUptoRow.holds Try.pinned (OpenSpec.upto slotsMoreSpec)

/-- 'ricksteadlaw4.SlotsRooms', WHERE WHAT IT READS IS OF BULK AT MOST 1048576: true; the input reads as it did. -/
def slotsRoomsUptoRow : OpenClaim := { program := "ytakcgbjgdcicgaa", sum := "b8e9a3fd3f2fd11aeff00d975efd2d28b7b19e3e760f5e642e8522058f01bfcb", func := "rickstead/ricksteadlaw4.SlotsRooms", spec := "slotsRooms", unfollowed := true, recurses := true, apart := false, narrowed := true }
def SlotsRoomsUptoSaid : Prop := slotsRoomsUptoRow.holds Try.pinned (OpenSpec.upto slotsRoomsSpec)

/-- 'ricksteadlaw4.MooreAll', WHERE WHAT IT READS IS OF BULK AT MOST 1048576: true; the input reads as it did. -/
def mooreAllUptoRow : OpenClaim := { program := "ytakcgbjgdcicgaa", sum := "b8e9a3fd3f2fd11aeff00d975efd2d28b7b19e3e760f5e642e8522058f01bfcb", func := "rickstead/ricksteadlaw4.MooreAll", spec := "mooreAll", unfollowed := true, recurses := true, apart := false, narrowed := true }
def MooreAllUptoSaid : Prop := mooreAllUptoRow.holds Try.pinned (OpenSpec.upto mooreAllSpec)

/-- 'ricksteadlaw4.MooreMost', WHERE WHAT IT READS IS OF BULK AT MOST 1048576: true; the input reads as it did. -/
def mooreMostUptoRow : OpenClaim := { program := "ytakcgbjgdcicgaa", sum := "b8e9a3fd3f2fd11aeff00d975efd2d28b7b19e3e760f5e642e8522058f01bfcb", func := "rickstead/ricksteadlaw4.MooreMost", spec := "mooreMost", unfollowed := true, recurses := true, apart := false, narrowed := true }
def MooreMostUptoSaid : Prop := mooreMostUptoRow.holds Try.pinned (OpenSpec.upto mooreMostSpec)

/-- 'ricksteadlaw4.MooreFewer', WHERE WHAT IT READS IS OF BULK AT MOST 1048576: true; the input reads as it did. -/
def mooreFewerUptoRow : OpenClaim := { program := "ytakcgbjgdcicgaa", sum := "b8e9a3fd3f2fd11aeff00d975efd2d28b7b19e3e760f5e642e8522058f01bfcb", func := "rickstead/ricksteadlaw4.MooreFewer", spec := "mooreFewer", unfollowed := true, recurses := true, apart := false, narrowed := true }
def MooreFewerUptoSaid : Prop := mooreFewerUptoRow.holds Try.pinned (OpenSpec.upto mooreFewerSpec)

end Rows
end Go.Proofs.Ytakcgbjgdcicgaa
