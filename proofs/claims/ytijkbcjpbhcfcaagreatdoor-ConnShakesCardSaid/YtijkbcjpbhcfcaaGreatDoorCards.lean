/-
  DERIVED. GIVEN WITH THE SEED: THE CARDS: each row of YtijkbcjpbhcfcaaGreatDoorRows.lean that lists a variable, with what it lists TIED to the program's text (the seventh form; the later family's looks); each row that meets fmt, with fmt's text TOLD by the authors' own Lean function (tested against real Go, not proved from fmt's source: count such statements apart). THE CARD IS WHAT COUNTS. Prove the row's statement (the work); the ties are given (YtijkbcjpbhcfcaaGreatDoorTie.lean); close each card by the builder's one call (the guide's Derived/Test/ToyasCard.lean, 'card_holds'). Laid BY PROGRAM, IN A SANDBOX (cutbox-door.mjs). By AI agents, Wed Nov 11 2026. No macro, syntax, notation, axiom, sorry.
-/
import Derived.Test.YtijkbcjpbhcfcaaGreatDoorRows
import GoSem.ClaimSeven
namespace Go.Proofs.YtijkbcjpbhcfcaaGreatDoor
namespace Rows

/-- THE TIED CARD OF 'culvertlaw27.ConnShakes'. -/
def connShakesCard : Claim7 := { stood := { row := connShakesRow, standIns := [], harness := (true, "a6673da030152ef325040821a610564206ddbbfc5a64849c699ff13af0987adb"), looks := true }, kinds := [], alts := [], laidByText := true, laidKinds := [.data, .widerDeep, .data, .data, .pinned, .pinned], laidTests := true, laidLooks := .later }
def ConnShakesCardSaid : Prop := Claim7.holds Tryz.pinned (.plain (OpenSpec.ofChange connShakesSpec)) connShakesCard

/-- THE SECOND FORM's CARD OF 'culvertlaw27.ConnShakes'. -/
def connShakesUptoCard : Claim7 := { stood := { row := connShakesUptoRow, standIns := [], harness := (true, "a6673da030152ef325040821a610564206ddbbfc5a64849c699ff13af0987adb"), looks := true }, kinds := [], alts := [], laidByText := true, laidKinds := [.data, .widerDeep, .data, .data, .pinned, .pinned], laidTests := true, laidLooks := .later }
def ConnShakesUptoCardSaid : Prop := Claim7.holds Tryz.pinned (.plain (OpenSpec.upto connShakesSpec)) connShakesUptoCard
end Rows
end Go.Proofs.YtijkbcjpbhcfcaaGreatDoor
