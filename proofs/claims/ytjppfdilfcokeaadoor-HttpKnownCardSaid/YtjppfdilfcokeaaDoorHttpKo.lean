/-
  The law HttpKnown. Condition: the library's variables lie as listed.
-/
import Derived.Test.YtjppfdilfcokeaaDoorHttpKnown
import Derived.Test.YtjppfdilfcokeaaDoorHttpV
namespace Go.Proofs.YtjppfdilfcokeaaDoor
open Go.RowKit Go.ChangeShapes Go.WideShapes Go.ChangeAt Go.Joins Go.Lib
set_option linter.unusedVariables false
set_option linter.unusedSimpArgs false

theorem httpKnown_typed (W : World) (hL : LW W) : Calls Tryd.prog 6 #[] W fun e W' => e = .returned (.bool true) ∧ Below W.heap.size W W' :=
  (known_walk W hL).mono fun e W' ⟨he, k⟩ => ⟨he, k.below (Nat.le_refl _) (by simp)⟩
end Go.Proofs.YtjppfdilfcokeaaDoor
