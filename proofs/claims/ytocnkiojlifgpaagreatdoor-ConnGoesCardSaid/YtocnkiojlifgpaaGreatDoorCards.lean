/-
  DERIVED. GIVEN WITH THE SEED: THE CARDS: each row of YtocnkiojlifgpaaGreatDoorRows.lean that lists a variable, with what it lists TIED to the program's text (the seventh form; the later family's looks); each row that meets fmt, with fmt's text TOLD by the authors' own Lean function (tested against real Go, not proved from fmt's source: count such statements apart). THE CARD IS WHAT COUNTS. Prove the row's statement (the work); the ties are given (YtocnkiojlifgpaaGreatDoorTie.lean); close each card by the builder's one call (the guide's Derived/Test/ToyasCard.lean, 'card_holds'). Laid BY PROGRAM, IN A SANDBOX (cutbox-door.mjs). By AI agents, Wed Nov 11 2026. No macro, syntax, notation, axiom, sorry.
-/
import Derived.Test.YtocnkiojlifgpaaGreatDoorRows
import GoSem.ClaimSeven
namespace Go.Proofs.YtocnkiojlifgpaaGreatDoor
namespace Rows

/-- THE TIED CARD OF 'culvertlaw27.ConnGoes'. -/
def connGoesCard : Claim7 := { stood := { row := connGoesRow, standIns := [], harness := (true, "5666c677ed0c2a02744da7fb77c68c5548f177a2e2ef02cbb3bc619906d9e60d"), looks := true }, kinds := [], alts := [], laidByText := true, laidKinds := [.data, .widerDeep, .data, .data, .pinned, .pinned], laidTests := true, laidLooks := .later }
def ConnGoesCardSaid : Prop := Claim7.holds Tryz.pinned (.plain (OpenSpec.ofChange connGoesSpec)) connGoesCard

/-- THE SECOND FORM's CARD OF 'culvertlaw27.ConnGoes'. -/
def connGoesUptoCard : Claim7 := { stood := { row := connGoesUptoRow, standIns := [], harness := (true, "5666c677ed0c2a02744da7fb77c68c5548f177a2e2ef02cbb3bc619906d9e60d"), looks := true }, kinds := [], alts := [], laidByText := true, laidKinds := [.data, .widerDeep, .data, .data, .pinned, .pinned], laidTests := true, laidLooks := .later }
def ConnGoesUptoCardSaid : Prop := Claim7.holds Tryz.pinned (.plain (OpenSpec.upto connGoesSpec)) connGoesUptoCard
end Rows
end Go.Proofs.YtocnkiojlifgpaaGreatDoor
