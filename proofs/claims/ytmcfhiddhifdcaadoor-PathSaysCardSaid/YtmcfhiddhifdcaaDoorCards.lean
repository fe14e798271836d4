/-
  DERIVED. GIVEN WITH THE SEED: THE CARDS: each row of YtmcfhiddhifdcaaDoorRows.lean that lists a variable, with what it lists TIED to the program's text (the seventh form; the later family's looks); each row that meets fmt, with fmt's text TOLD by the authors' own Lean function (tested against real Go, not proved from fmt's source: count such statements apart). THE CARD IS WHAT COUNTS. Prove the row's statement (the work); the ties are given (YtmcfhiddhifdcaaDoorTie.lean); close each card by the builder's one call (the guide's Derived/Test/ToyasCard.lean, 'card_holds'). Laid BY PROGRAM, IN A SANDBOX (cutbox-door.mjs). By AI agents, Wed Nov 11 2026. No macro, syntax, notation, axiom, sorry.
-/
import Derived.Test.YtmcfhiddhifdcaaDoorRows
import GoSem.ClaimSeven
namespace Go.Proofs.YtmcfhiddhifdcaaDoor
namespace Rows

/-- THE TIED CARD OF 'ricksteadlaw3.PathSays'. -/
def pathSaysCard : Claim7 := { stood := { row := pathSaysRow, standIns := [], harness := (true, "ec158fd4b5ed5b692a7ae037f014ee863ed322476e45def809a808e3e5d00bbb"), looks := true }, kinds := [], alts := [], laidByText := true, laidKinds := [.handle], laidTests := true, laidLooks := .later }
def PathSaysCardSaid : Prop := Claim7.holds Tryd.pinned (.plain (OpenSpec.ofChange pathSaysSpec)) pathSaysCard

/-- THE SECOND FORM's CARD OF 'ricksteadlaw3.PathSays'. -/
def pathSaysUptoCard : Claim7 := { stood := { row := pathSaysUptoRow, standIns := [], harness := (true, "ec158fd4b5ed5b692a7ae037f014ee863ed322476e45def809a808e3e5d00bbb"), looks := true }, kinds := [], alts := [], laidByText := true, laidKinds := [.handle], laidTests := true, laidLooks := .later }
def PathSaysUptoCardSaid : Prop := Claim7.holds Tryd.pinned (.plain (OpenSpec.upto pathSaysSpec)) pathSaysUptoCard
end Rows
end Go.Proofs.YtmcfhiddhifdcaaDoor
