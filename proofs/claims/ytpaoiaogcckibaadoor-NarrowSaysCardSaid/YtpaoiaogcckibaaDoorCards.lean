/-
  DERIVED. GIVEN WITH THE SEED: THE CARDS: each row of YtpaoiaogcckibaaDoorRows.lean that lists a variable, with what it lists TIED to the program's text (the seventh form; the later family's looks); each row that meets fmt, with fmt's text TOLD by the authors' own Lean function (tested against real Go, not proved from fmt's source: count such statements apart). THE CARD IS WHAT COUNTS. Prove the row's statement (the work); the ties are given (YtpaoiaogcckibaaDoorTie.lean); close each card by the builder's one call (the guide's Derived/Test/ToyasCard.lean, 'card_holds'). Laid BY PROGRAM, IN A SANDBOX (cutbox-door.mjs). By AI agents, Wed Nov 11 2026. No macro, syntax, notation, axiom, sorry.
-/
import Derived.Test.YtpaoiaogcckibaaDoorRows
import GoSem.ClaimSeven
namespace Go.Proofs.YtpaoiaogcckibaaDoor
namespace Rows

/-- THE TIED CARD OF 'ricksteadlaw3.UnionPlays'. -/
def unionPlaysCard : Claim7 := { stood := { row := unionPlaysRow, standIns := [], harness := (true, "fa00c5f8cb9f02378b3192408d36796dc788c4fcd3fe11e6c1264c0f02c53c9e"), looks := true }, kinds := [], alts := [], laidByText := true, laidKinds := [.handle], laidTests := true, laidLooks := .later }
def UnionPlaysCardSaid : Prop := Claim7.holds Tryd.pinned (.plain (OpenSpec.ofChange unionPlaysSpec)) unionPlaysCard

/-- THE TIED CARD OF 'ricksteadlaw3.NarrowSays'. -/
def narrowSaysCard : Claim7 := { stood := { row := narrowSaysRow, standIns := [], harness := (true, "fa00c5f8cb9f02378b3192408d36796dc788c4fcd3fe11e6c1264c0f02c53c9e"), looks := true }, kinds := [], alts := [], laidByText := true, laidKinds := [.handle], laidTests := true, laidLooks := .later }
def NarrowSaysCardSaid : Prop := Claim7.holds Tryd.pinned (.plain (OpenSpec.ofChange narrowSaysSpec)) narrowSaysCard

/-- THE TIED CARD OF 'ricksteadlaw3.PathSays'. -/
def pathSaysCard : Claim7 := { stood := { row := pathSaysRow, standIns := [], harness := (true, "fa00c5f8cb9f02378b3192408d36796dc788c4fcd3fe11e6c1264c0f02c53c9e"), looks := true }, kinds := [], alts := [], laidByText := true, laidKinds := [.handle], laidTests := true, laidLooks := .later }
def PathSaysCardSaid : Prop := Claim7.holds Tryd.pinned (.plain (OpenSpec.ofChange pathSaysSpec)) pathSaysCard

/-- THE TIED CARD OF 'ricksteadlaw4.SmithSays'. -/
def smithSaysCard : Claim7 := { stood := { row := smithSaysRow, standIns := [], harness := (true, "fa00c5f8cb9f02378b3192408d36796dc788c4fcd3fe11e6c1264c0f02c53c9e"), looks := true }, kinds := [], alts := [], laidByText := true, laidKinds := [.handle], laidTests := true, laidLooks := .later }
def SmithSaysCardSaid : Prop := Claim7.holds Tryd.pinned (.plain (OpenSpec.ofChange smithSaysSpec)) smithSaysCard

/-- THE TIED CARD OF 'ricksteadlaw4.DueSays'. -/
def dueSaysCard : Claim7 := { stood := { row := dueSaysRow, standIns := [], harness := (true, "fa00c5f8cb9f02378b3192408d36796dc788c4fcd3fe11e6c1264c0f02c53c9e"), looks := true }, kinds := [], alts := [], laidByText := true, laidKinds := [.handle], laidTests := true, laidLooks := .later }
def DueSaysCardSaid : Prop := Claim7.holds Tryd.pinned (.plain (OpenSpec.ofChange dueSaysSpec)) dueSaysCard

/-- THE TIED CARD OF 'ricksteadlaw4.FlowSays'. -/
def flowSaysCard : Claim7 := { stood := { row := flowSaysRow, standIns := [], harness := (true, "fa00c5f8cb9f02378b3192408d36796dc788c4fcd3fe11e6c1264c0f02c53c9e"), looks := true }, kinds := [], alts := [], laidByText := true, laidKinds := [.handle], laidTests := true, laidLooks := .later }
def FlowSaysCardSaid : Prop := Claim7.holds Tryd.pinned (.plain (OpenSpec.ofChange flowSaysSpec)) flowSaysCard

/-- THE TIED CARD OF 'ricksteadlaw4.SlotsSays'. -/
def slotsSaysCard : Claim7 := { stood := { row := slotsSaysRow, standIns := [], harness := (true, "fa00c5f8cb9f02378b3192408d36796dc788c4fcd3fe11e6c1264c0f02c53c9e"), looks := true }, kinds := [], alts := [], laidByText := true, laidKinds := [.handle], laidTests := true, laidLooks := .later }
def SlotsSaysCardSaid : Prop := Claim7.holds Tryd.pinned (.plain (OpenSpec.ofChange slotsSaysSpec)) slotsSaysCard

/-- THE TIED CARD OF 'ricksteadlaw4.MooreSays'. -/
def mooreSaysCard : Claim7 := { stood := { row := mooreSaysRow, standIns := [], harness := (true, "fa00c5f8cb9f02378b3192408d36796dc788c4fcd3fe11e6c1264c0f02c53c9e"), looks := true }, kinds := [], alts := [], laidByText := true, laidKinds := [.handle], laidTests := true, laidLooks := .later }
def MooreSaysCardSaid : Prop := Claim7.holds Tryd.pinned (.plain (OpenSpec.ofChange mooreSaysSpec)) mooreSaysCard

/-- THE TIED CARD OF 'ricksteadlaw3.SpanSays'. -/
def spanSaysCard : Claim7 := { stood := { row := spanSaysRow, standIns := [], harness := (true, "fa00c5f8cb9f02378b3192408d36796dc788c4fcd3fe11e6c1264c0f02c53c9e"), looks := true }, kinds := [], alts := [], laidByText := true, laidKinds := [.handle], laidTests := true, laidLooks := .later }
def SpanSaysCardSaid : Prop := Claim7.holds Tryd.pinned (.plain (OpenSpec.ofChange spanSaysSpec)) spanSaysCard

/-- THE SECOND FORM's CARD OF 'ricksteadlaw3.UnionPlays'. -/
def unionPlaysUptoCard : Claim7 := { stood := { row := unionPlaysUptoRow, standIns := [], harness := (true, "fa00c5f8cb9f02378b3192408d36796dc788c4fcd3fe11e6c1264c0f02c53c9e"), looks := true }, kinds := [], alts := [], laidByText := true, laidKinds := [.handle], laidTests := true, laidLooks := .later }
def UnionPlaysUptoCardSaid : Prop := Claim7.holds Tryd.pinned (.plain (OpenSpec.upto unionPlaysSpec)) unionPlaysUptoCard

/-- THE SECOND FORM's CARD OF 'ricksteadlaw3.NarrowSays'. -/
def narrowSaysUptoCard : Claim7 := { stood := { row := narrowSaysUptoRow, standIns := [], harness := (true, "fa00c5f8cb9f02378b3192408d36796dc788c4fcd3fe11e6c1264c0f02c53c9e"), looks := true }, kinds := [], alts := [], laidByText := true, laidKinds := [.handle], laidTests := true, laidLooks := .later }
def NarrowSaysUptoCardSaid : Prop := Claim7.holds Tryd.pinned (.plain (OpenSpec.upto narrowSaysSpec)) narrowSaysUptoCard

/-- THE SECOND FORM's CARD OF 'ricksteadlaw3.PathSays'. -/
def pathSaysUptoCard : Claim7 := { stood := { row := pathSaysUptoRow, standIns := [], harness := (true, "fa00c5f8cb9f02378b3192408d36796dc788c4fcd3fe11e6c1264c0f02c53c9e"), looks := true }, kinds := [], alts := [], laidByText := true, laidKinds := [.handle], laidTests := true, laidLooks := .later }
def PathSaysUptoCardSaid : Prop := Claim7.holds Tryd.pinned (.plain (OpenSpec.upto pathSaysSpec)) pathSaysUptoCard

/-- THE SECOND FORM's CARD OF 'ricksteadlaw4.SmithSays'. -/
def smithSaysUptoCard : Claim7 := { stood := { row := smithSaysUptoRow, standIns := [], harness := (true, "fa00c5f8cb9f02378b3192408d36796dc788c4fcd3fe11e6c1264c0f02c53c9e"), looks := true }, kinds := [], alts := [], laidByText := true, laidKinds := [.handle], laidTests := true, laidLooks := .later }
def SmithSaysUptoCardSaid : Prop := Claim7.holds Tryd.pinned (.plain (OpenSpec.upto smithSaysSpec)) smithSaysUptoCard

/-- THE SECOND FORM's CARD OF 'ricksteadlaw4.DueSays'. -/
def dueSaysUptoCard : Claim7 := { stood := { row := dueSaysUptoRow, standIns := [], harness := (true, "fa00c5f8cb9f02378b3192408d36796dc788c4fcd3fe11e6c1264c0f02c53c9e"), looks := true }, kinds := [], alts := [], laidByText := true, laidKinds := [.handle], laidTests := true, laidLooks := .later }
def DueSaysUptoCardSaid : Prop := Claim7.holds Tryd.pinned (.plain (OpenSpec.upto dueSaysSpec)) dueSaysUptoCard

/-- THE SECOND FORM's CARD OF 'ricksteadlaw4.FlowSays'. -/
def flowSaysUptoCard : Claim7 := { stood := { row := flowSaysUptoRow, standIns := [], harness := (true, "fa00c5f8cb9f02378b3192408d36796dc788c4fcd3fe11e6c1264c0f02c53c9e"), looks := true }, kinds := [], alts := [], laidByText := true, laidKinds := [.handle], laidTests := true, laidLooks := .later }
def FlowSaysUptoCardSaid : Prop := Claim7.holds Tryd.pinned (.plain (OpenSpec.upto flowSaysSpec)) flowSaysUptoCard

/-- THE SECOND FORM's CARD OF 'ricksteadlaw4.SlotsSays'. -/
def slotsSaysUptoCard : Claim7 := { stood := { row := slotsSaysUptoRow, standIns := [], harness := (true, "fa00c5f8cb9f02378b3192408d36796dc788c4fcd3fe11e6c1264c0f02c53c9e"), looks := true }, kinds := [], alts := [], laidByText := true, laidKinds := [.handle], laidTests := true, laidLooks := .later }
def SlotsSaysUptoCardSaid : Prop := Claim7.holds Tryd.pinned (.plain (OpenSpec.upto slotsSaysSpec)) slotsSaysUptoCard

/-- THE SECOND FORM's CARD OF 'ricksteadlaw4.MooreSays'. -/
def mooreSaysUptoCard : Claim7 := { stood := { row := mooreSaysUptoRow, standIns := [], harness := (true, "fa00c5f8cb9f02378b3192408d36796dc788c4fcd3fe11e6c1264c0f02c53c9e"), looks := true }, kinds := [], alts := [], laidByText := true, laidKinds := [.handle], laidTests := true, laidLooks := .later }
def MooreSaysUptoCardSaid : Prop := Claim7.holds Tryd.pinned (.plain (OpenSpec.upto mooreSaysSpec)) mooreSaysUptoCard

/-- THE SECOND FORM's CARD OF 'ricksteadlaw3.SpanSays'. -/
def spanSaysUptoCard : Claim7 := { stood := { row := spanSaysUptoRow, standIns := [], harness := (true, "fa00c5f8cb9f02378b3192408d36796dc788c4fcd3fe11e6c1264c0f02c53c9e"), looks := true }, kinds := [], alts := [], laidByText := true, laidKinds := [.handle], laidTests := true, laidLooks := .later }
def SpanSaysUptoCardSaid : Prop := Claim7.holds Tryd.pinned (.plain (OpenSpec.upto spanSaysSpec)) spanSaysUptoCard
end Rows
end Go.Proofs.YtpaoiaogcckibaaDoor
