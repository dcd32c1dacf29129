/-
  DERIVED. GIVEN WITH THE SEED: THE CARDS: each row of YtocnkiojlifgpabGreatDoorRows.lean that lists a variable, with what it lists TIED to the program's text (the seventh form; the later family's looks); each row that meets fmt, with fmt's text TOLD by the authors' own Lean function (tested against real Go, not proved from fmt's source: count such statements apart). THE CARD IS WHAT COUNTS. Prove the row's statement (the work); the ties are given (YtocnkiojlifgpabGreatDoorTie.lean); close each card by the builder's one call (the guide's Derived/Test/ToyasCard.lean, 'card_holds'). Laid BY PROGRAM, IN A SANDBOX (cutbox-door.mjs). By AI agents, Wed Nov 11 2026. No macro, syntax, notation, axiom, sorry.
-/
import Derived.Test.YtocnkiojlifgpabGreatDoorRows
import GoSem.ClaimSeven
namespace Go.Proofs.YtocnkiojlifgpabGreatDoor
namespace Rows

/-- THE TIED CARD OF 'culvertlaw27.ConnKnown'. -/
def connKnownCard : Claim7 := { stood := { row := connKnownRow, standIns := [], harness := (true, "7c2ca847af961a87e8a60cf9abce71db1d288c70c09683898905c41afe161463"), looks := true }, kinds := [], alts := [], laidByText := true, laidKinds := [.data, .widerDeep, .data, .data, .pinned, .pinned], laidTests := true, laidLooks := .later }
def ConnKnownCardSaid : Prop := Claim7.holds Tryz.pinned (.plain (OpenSpec.ofChange connKnownSpec)) connKnownCard

/-- THE SECOND FORM's CARD OF 'culvertlaw27.ConnKnown'. -/
def connKnownUptoCard : Claim7 := { stood := { row := connKnownUptoRow, standIns := [], harness := (true, "7c2ca847af961a87e8a60cf9abce71db1d288c70c09683898905c41afe161463"), looks := true }, kinds := [], alts := [], laidByText := true, laidKinds := [.data, .widerDeep, .data, .data, .pinned, .pinned], laidTests := true, laidLooks := .later }
def ConnKnownUptoCardSaid : Prop := Claim7.holds Tryz.pinned (.plain (OpenSpec.upto connKnownSpec)) connKnownUptoCard
end Rows
end Go.Proofs.YtocnkiojlifgpabGreatDoor
