/-
  The law ConnKnown (no argument): it returns true, and leaves what was there: reckoned by the evaluator, with the closed tables of known calls. Condition: the listed variables lie as listed.
-/
import Derived.Test.YtocnkiojlifgpabGreatDoorCnV
namespace Go.Proofs.YtocnkiojlifgpabGreatDoor
open Go.RowKit
theorem connKnown_true (W : World) : @Ev.lawSymX (atE W) Tryz.prog connX 2000 3 [] = True := by kernel_rfl
theorem connKnown_typed (W : World) (hC : CW W) : Calls Tryz.prog 3 #[] W fun e W' => e = .returned (.bool true) ∧ Below W.heap.size W W' := closed_any W hC 2000 _ (connKnown_true W)
end Go.Proofs.YtocnkiojlifgpabGreatDoor
