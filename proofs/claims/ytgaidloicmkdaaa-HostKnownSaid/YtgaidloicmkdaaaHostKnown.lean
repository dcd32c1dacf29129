/-
  The law HostKnown (no argument): it returns true, and leaves what was there: reckoned by the evaluator (EvT). No condition.
-/
import Derived.Test.YtgaidloicmkdaaaEvT
import Derived.Test.YtgaidloicmkdaaaRows
namespace Go.Proofs.Ytgaidloicmkdaaa
open Ev Go.RowKit
theorem hostKnown_true : lawTrue Try.prog 400 6 = True := by kernel_rfl
theorem hostKnown_typed (W : World) : Calls Try.prog 6 #[] W fun e W' => e = .returned (.bool true) ∧ Below W.heap.size W W' := lawTrue_calls hostKnown_true W
end Go.Proofs.Ytgaidloicmkdaaa
