/-
  The law SniffNames over its arguments as they come in. Condition: the library's variables lie as listed.
-/
import Derived.Test.YtpoheemjdieogaaGreatDoorSnNames
import Derived.Test.YtpoheemjdieogaaGreatDoorSnO
namespace Go.Proofs.YtpoheemjdieogaaGreatDoor
open Go.RowKit Go.ChangeShapes Go.WideShapes Go.ChangeAt Go.Joins Go.Lib
set_option linter.unusedVariables false
set_option linter.unusedSimpArgs false

set_option maxRecDepth 100000 in
theorem sniffNames_typed {H : Type} (enc : TypeId × Value → H) (W : World) (base : Nat) {v0 v1 : Value} {d0 d1 : DataW H} {p0 p1 : List MemPlace}
    (o0 : Value.okWide Tryz.prog W .any base 9 v0) (o1 : Value.okWide Tryz.prog W .any base 40 v1)
    (h0 : DataW.Trod enc Tryz.prog W 0 (fun _ => true) true 9 v0 d0 p0) (h1 : DataW.Trod enc Tryz.prog W 0 (fun _ => true) true 40 v1 d1 p1) (hL : LW W) :
    Calls Tryz.prog 5 #[v0, v1] W fun e W' => e = .returned (.bool true) ∧ Below W.heap.size W W' := by
  obtain ⟨s, rfl⟩ := okWide_string Tryz.underlying9 o0
  obtain ⟨up, A1, n1, c1, l1, A2, n2, c2, l2, pt, rfl, hpt, hb1, hb2⟩ := open_said o1 h1
  exact (names_walk W hL s up A1 n1 c1 l1 hb1 A2 n2 c2 l2 hb2 pt hpt).mono fun e W' ⟨he, k⟩ => ⟨he, k.below (Nat.le_refl _) (by simp)⟩
end Go.Proofs.YtpoheemjdieogaaGreatDoor
