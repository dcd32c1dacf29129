/-
  The law SniffKnown, typed. Condition: the library's variables lie as listed.
-/
import Derived.Test.YtpoheemjdieogaaGreatDoorSnKnown
import Derived.Test.YtpoheemjdieogaaGreatDoorHttpV
namespace Go.Proofs.YtpoheemjdieogaaGreatDoor
open Go.RowKit Go.Lib
theorem sniffKnown_typed (W : World) (hL : LW W) : Calls Tryz.prog 7 #[] W fun e W' => e = .returned (.bool true) ∧ Below W.heap.size W W' :=
  (sknown_walk W hL).mono fun e W' ⟨he, k⟩ => ⟨he, k.below (Nat.le_refl _) (by simp)⟩
end Go.Proofs.YtpoheemjdieogaaGreatDoor
