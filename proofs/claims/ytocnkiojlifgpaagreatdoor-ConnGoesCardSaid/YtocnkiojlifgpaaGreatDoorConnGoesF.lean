/-
  The frame of the law ConnGoes: the given statement out of the walk 'connGoes_typed'. No condition.
-/
import Derived.Test.YtocnkiojlifgpaaGreatDoorConnGoesFa
import Derived.Test.YtocnkiojlifgpaaGreatDoorConnGoesFb
import Derived.Test.YtocnkiojlifgpaaGreatDoorConnGoesFc
import Derived.Test.YtocnkiojlifgpaaGreatDoorConnGoes
import Derived.Test.YtocnkiojlifgpaaGreatDoorCards
import Derived.Test.YtocnkiojlifgpaaGreatDoorTie
import Derived.SevenTiedAt
import Derived.ProofKit
import Derived.OpenShut
import Derived.Handed
namespace Go.Proofs.YtocnkiojlifgpaaGreatDoor.connGoes
open Go.ChangeShapes Go.WideShapes Go.ChangeAt Go.RowKit
set_option linter.unusedVariables false
theorem facts : joinedFacts Tryz.pinned.checked.prog 3 Tryz.f3 Rows.connGoesSpec Rows.connGoesRow = true := by
  unfold joinedFacts
  rw [j_inPlace, j_unfollowed, j_recurses, j_varsNamed, j_mapsRowed, j_laidOutB, j_stopsHeard, j_mayEnter, j_liftsFinal, j_plainKeys, j_make]
  kernel_rfl
theorem over : Rows.connGoesRow.holds Tryz.pinned (OpenSpec.ofChange Rows.connGoesSpec) :=
  OpenClaim.holds_of_wide 3 Tryz.f3 rfl rfl rfl rfl rfl rfl rfl ⟨rfl, rfl, rfl, rfl, rfl⟩ rfl rfl rfl rfl rfl (by kernel_rfl) Tryz.func3 facts
    (of_decide_eq_true (by kernel_rfl)) (by unfold Func.isWrapper; first | (rw [if_pos (by decide +kernel)]; kernel_rfl) | (rw [if_neg (by decide +kernel)]; exact ⟨rfl, rfl⟩))
    (fun os started H enc _ => lifted os started H enc)
set_option maxRecDepth 100000 in
/-- THE STATEMENT. -/
theorem proved : Rows.ConnGoesCardSaid :=
  Claim7.holds_tied_plain_at .later [] [.data, .widerDeep, .data, .data, .pinned, .pinned] true (true, "5666c677ed0c2a02744da7fb77c68c5548f177a2e2ef02cbb3bc619906d9e60d") true
    over (fun _ h => by cases h) (by kernel_rfl) (fun _ h => by cases h) connGoes_row_tie rfl ⟨rfl, rfl⟩ (by kernel_rfl) rfl
    (fun f fn hf hfn => by
      obtain rfl : f = 3 := Option.some.inj ((show Tryz.prog.funcNamed "culvert/culvertlaw27.ConnGoes" = some 3 by kernel_rfl).symm.trans hf) |>.symm
      obtain rfl : fn = Tryz.f3 := (Option.some.inj (Tryz.func3.symm.trans hfn)).symm
      refine ⟨by kernel_rfl, fun j t hj => ?_⟩
      rw [Tryz.params3] at hj
      match j, hj with
      | 0, hj =>
        obtain rfl : t = 29 := by simpa using hj.symm
        exact (by kernel_rfl : Tryz.pinned.checked.prog.wantsStandIn 29 = false)
      | 1, hj =>
        obtain rfl : t = 4 := by simpa using hj.symm
        exact (by kernel_rfl : Tryz.pinned.checked.prog.wantsStandIn 4 = false)
      | 2, hj =>
        obtain rfl : t = 5 := by simpa using hj.symm
        exact (by kernel_rfl : Tryz.pinned.checked.prog.wantsStandIn 5 = false)
      | j + 3, hj => simp at hj)
    (by kernel_rfl)
#print axioms proved
end Go.Proofs.YtocnkiojlifgpaaGreatDoor.connGoes
