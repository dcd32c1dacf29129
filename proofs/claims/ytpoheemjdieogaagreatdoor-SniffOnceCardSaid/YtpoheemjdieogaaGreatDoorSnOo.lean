/-
  The law SniffOnce over its arguments as they come in. Condition: the library's variables lie as listed.
-/
import Derived.Test.YtpoheemjdieogaaGreatDoorSnOnce
import Derived.Test.YtpoheemjdieogaaGreatDoorSnO
namespace Go.Proofs.YtpoheemjdieogaaGreatDoor
open Go.RowKit Go.ChangeShapes Go.WideShapes Go.ChangeAt Go.Joins Go.Lib
set_option linter.unusedVariables false
set_option linter.unusedSimpArgs false

set_option maxRecDepth 100000 in
theorem sniffOnce_typed {H : Type} (enc : TypeId × Value → H) (W : World) (base : Nat) {v0 v1 v2 : Value} {d0 d1 d2 : DataW H} {p0 p1 p2 : List MemPlace}
    (o0 : Value.okWide Tryz.prog W .any base 27 v0) (o1 : Value.okWide Tryz.prog W .any base 22 v1) (o2 : Value.okWide Tryz.prog W .any base 29 v2)
    (h0 : DataW.Trod enc Tryz.prog W 0 (fun _ => true) true 27 v0 d0 p0) (h1 : DataW.Trod enc Tryz.prog W 0 (fun _ => true) true 22 v1 d1 p1) (h2 : DataW.Trod enc Tryz.prog W 0 (fun _ => true) true 29 v2 d2 p2) (hL : LW W) :
    Calls Tryz.prog 4 #[v0, v1, v2] W fun e W' => e = .returned (.bool true) ∧ Below W.heap.size W W' := by
  obtain ⟨m0, rfl, hm0⟩ := open_u16 o0 h0
  obtain ⟨A1, n1, c1, l1, rfl, hb1⟩ := open_bytes o1 h1
  obtain ⟨A2, n2, c2, l2, cl, rfl, hb2⟩ := open_parted o2 h2
  exact (once_walk W hL m0 hm0 A1 n1 c1 l1 hb1 A2 n2 c2 l2 hb2 cl).mono fun e W' ⟨he, k⟩ => ⟨he, k.below (Nat.le_refl _) (by simp)⟩
end Go.Proofs.YtpoheemjdieogaaGreatDoor
