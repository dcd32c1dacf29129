/-
  The law SniffParts over its arguments as they come in. Condition: the library's variables lie as listed.
-/
import Derived.Test.YtpoheemjdieogaaGreatDoorSnParts
import Derived.Test.YtpoheemjdieogaaGreatDoorHttpV
namespace Go.Proofs.YtpoheemjdieogaaGreatDoor
open Go.RowKit Go.ChangeShapes Go.WideShapes Go.ChangeAt Go.Joins Go.Lib
set_option linter.unusedVariables false
set_option linter.unusedSimpArgs false

set_option maxRecDepth 100000 in
theorem open_b {W : World} {v : Value} {b0 : Nat} (o : Value.okWide Tryz.prog W .any b0 4 v) : ∃ b, v = .bool b := okWide_bool Tryz.underlying4 o
set_option maxRecDepth 100000 in
theorem sniffParts_typed {H : Type} (enc : TypeId × Value → H) (W : World) (base : Nat) {v0 v1 : Value} {d0 d1 : DataW H} {p0 p1 : List MemPlace}
    (o0 : Value.okWide Tryz.prog W .any base 22 v0) (o1 : Value.okWide Tryz.prog W .any base 4 v1)
    (h0 : DataW.Trod enc Tryz.prog W 0 (fun _ => true) true 22 v0 d0 p0) (h1 : DataW.Trod enc Tryz.prog W 0 (fun _ => true) true 4 v1 d1 p1) (hL : LW W) :
    Calls Tryz.prog 6 #[v0, v1] W fun e W' => e = .returned (.bool true) ∧ Below W.heap.size W W' := by
  obtain ⟨A1, n1, c1, l1, rfl, hb1⟩ := open_bytes o0 h0
  obtain ⟨b, rfl⟩ := open_b o1
  exact (parts_walk W hL A1 n1 c1 l1 hb1 b).mono fun e W' ⟨he, k⟩ => ⟨he, k.below (Nat.le_refl _) (by simp)⟩
end Go.Proofs.YtpoheemjdieogaaGreatDoor
