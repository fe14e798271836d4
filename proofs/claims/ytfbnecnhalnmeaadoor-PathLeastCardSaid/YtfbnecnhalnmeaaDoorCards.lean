/-
  DERIVED. GIVEN WITH THE SEED: THE CARDS: each row of YtfbnecnhalnmeaaDoorRows.lean that lists a variable, with what it lists TIED to the program's text (the seventh form; the later family's looks); each row that meets fmt, with fmt's text TOLD by the authors' own Lean function (tested against real Go, not proved from fmt's source: count such statements apart). THE CARD IS WHAT COUNTS. Prove the row's statement (the work); the ties are given (YtfbnecnhalnmeaaDoorTie.lean); close each card by the builder's one call (the guide's Derived/Test/ToyasCard.lean, 'card_holds'). Laid BY PROGRAM, IN A SANDBOX (cutbox-door.mjs). By AI agents, Wed Nov 11 2026. No macro, syntax, notation, axiom, sorry.
-/
import Derived.Test.YtfbnecnhalnmeaaDoorRows
import GoSem.ClaimSeven
namespace Go.Proofs.YtfbnecnhalnmeaaDoor
namespace Rows

/-- THE TIED CARD OF 'ricksteadlaw3.PathLeast'. -/
def pathLeastCard : Claim7 := { stood := { row := pathLeastRow, standIns := [], harness := (true, "9df8b566db36c908049eb98c4bc94dc52ab233bea495854ff838bf53794e3dc1"), looks := true }, kinds := [], alts := [], laidByText := true, laidKinds := [.handle], laidTests := true, laidLooks := .later }
def PathLeastCardSaid : Prop := Claim7.holds Tryd.pinned (.plain (OpenSpec.ofChange pathLeastSpec)) pathLeastCard

/-- THE SECOND FORM's CARD OF 'ricksteadlaw3.PathLeast'. -/
def pathLeastUptoCard : Claim7 := { stood := { row := pathLeastUptoRow, standIns := [], harness := (true, "9df8b566db36c908049eb98c4bc94dc52ab233bea495854ff838bf53794e3dc1"), looks := true }, kinds := [], alts := [], laidByText := true, laidKinds := [.handle], laidTests := true, laidLooks := .later }
def PathLeastUptoCardSaid : Prop := Claim7.holds Tryd.pinned (.plain (OpenSpec.upto pathLeastSpec)) pathLeastUptoCard
end Rows
end Go.Proofs.YtfbnecnhalnmeaaDoor
