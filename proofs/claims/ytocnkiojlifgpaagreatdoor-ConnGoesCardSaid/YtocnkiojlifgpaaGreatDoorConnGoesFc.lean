/-
  The frame of the law ConnGoes: closed facts of the program (recurses, varsNamed). No condition.
-/
import Derived.Test.YtocnkiojlifgpaaGreatDoorCards
import Derived.Test.YtocnkiojlifgpaaGreatDoorTie
import Derived.SevenTiedAt
import Derived.ProofKit
import Derived.OpenShut
import Derived.Handed
namespace Go.Proofs.YtocnkiojlifgpaaGreatDoor.connGoes
open Go.ChangeShapes Go.WideShapes Go.ChangeAt Go.RowKit
set_option linter.unusedVariables false
theorem j_recurses : Tryz.pinned.checked.prog.recurses 3 = Rows.connGoesRow.recurses := by kernel_rfl
theorem j_varsNamed : Tryz.pinned.checked.prog.varsNamed 3 = Rows.connGoesRow.named := by kernel_rfl
theorem j_mapsRowed : mapsRowed Tryz.pinned.checked.prog = true := by kernel_rfl
theorem j_laidOutB : laidOutB Tryz.pinned.checked.prog = true := by kernel_rfl
theorem j_stopsHeard : Tryz.pinned.checked.prog.stopsHeard = true := by kernel_rfl
theorem j_mayEnter : Tryz.pinned.checked.prog.mayEnter = true := by kernel_rfl
theorem j_liftsFinal : Tryz.pinned.checked.prog.liftsFinal = Rows.connGoesRow.lifted := by kernel_rfl
theorem j_plainKeys : Tryz.pinned.checked.prog.plainKeys = Rows.connGoesRow.plainKeys := by kernel_rfl
theorem j_make : Tryz.pinned.checked.prog.make = some Rows.connGoesRow.make := by kernel_rfl
end Go.Proofs.YtocnkiojlifgpaaGreatDoor.connGoes
