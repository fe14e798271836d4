/-
  DERIVED. GIVEN WITH THE SEED: THE CARDS: each row of YtblblgmmgalmeaaDoorRows.lean that lists a variable, with what it lists TIED to the program's text (the seventh form; the later family's looks); each row that meets fmt, with fmt's text TOLD by the authors' own Lean function (tested against real Go, not proved from fmt's source: count such statements apart). THE CARD IS WHAT COUNTS. Prove the row's statement (the work); the ties are given (YtblblgmmgalmeaaDoorTie.lean); close each card by the builder's one call (the guide's Derived/Test/ToyasCard.lean, 'card_holds'). Laid BY PROGRAM, IN A SANDBOX (cutbox-door.mjs). By AI agents, Wed Nov 11 2026. No macro, syntax, notation, axiom, sorry.
-/
import Derived.Test.YtblblgmmgalmeaaDoorRows
import GoSem.ClaimSeven
namespace Go.Proofs.YtblblgmmgalmeaaDoor
namespace Rows

/-- THE TIED CARD OF 'ricksteadlaw3.UnionPlays'. -/
def unionPlaysCard : Claim7 := { stood := { row := unionPlaysRow, standIns := [], harness := (true, "d8314be1d06be3a0a5c4ebb7c626fde0b5037a5ebb0b08ce7200ea5581d5f23b"), looks := true }, kinds := [], alts := [], laidByText := true, laidKinds := [.handle], laidTests := true, laidLooks := .later }
def UnionPlaysCardSaid : Prop := Claim7.holds Tryd.pinned (.plain (OpenSpec.ofChange unionPlaysSpec)) unionPlaysCard

/-- THE SECOND FORM's CARD OF 'ricksteadlaw3.UnionPlays'. -/
def unionPlaysUptoCard : Claim7 := { stood := { row := unionPlaysUptoRow, standIns := [], harness := (true, "d8314be1d06be3a0a5c4ebb7c626fde0b5037a5ebb0b08ce7200ea5581d5f23b"), looks := true }, kinds := [], alts := [], laidByText := true, laidKinds := [.handle], laidTests := true, laidLooks := .later }
def UnionPlaysUptoCardSaid : Prop := Claim7.holds Tryd.pinned (.plain (OpenSpec.upto unionPlaysSpec)) unionPlaysUptoCard
end Rows
end Go.Proofs.YtblblgmmgalmeaaDoor
