/-
  The frame of the law ConnGoes: closed facts of the program (inPlace, unfollowed). No condition.
-/
import Derived.Test.YtocnkiojlifgpaaGreatDoorCards
import Derived.Test.YtocnkiojlifgpaaGreatDoorTie
import Derived.SevenTiedAt
import Derived.ProofKit
import Derived.OpenShut
import Derived.Handed
namespace Go.Proofs.YtocnkiojlifgpaaGreatDoor.connGoes
open Go.ChangeShapes Go.WideShapes Go.ChangeAt Go.RowKit
set_option linter.unusedVariables false
theorem j_inPlace : Tryz.pinned.checked.prog.inPlace 3 = Rows.connGoesRow.inPlace := by kernel_rfl
theorem j_unfollowed : Tryz.pinned.checked.prog.unfollowed 3 = Rows.connGoesRow.unfollowed := by kernel_rfl
end Go.Proofs.YtocnkiojlifgpaaGreatDoor.connGoes
