/-
  The law HttpComes over its arguments as they come in. Condition: the library's variables lie as listed.
-/
import Derived.Test.YtjppfdilfcokeaaDoorHttpComes
import Derived.Test.YtjppfdilfcokeaaDoorHttpV
namespace Go.Proofs.YtjppfdilfcokeaaDoor
open Go.RowKit Go.ChangeShapes Go.WideShapes Go.ChangeAt Go.Joins Go.Lib
set_option linter.unusedVariables false
set_option linter.unusedSimpArgs false

set_option maxRecDepth 100000 in
theorem httpComes_typed {H : Type} (enc : TypeId × Value → H) (W : World) (base : Nat) {v0 v1 : Value} {d0 d1 : DataW H} {p0 p1 : List MemPlace}
    (o0 : Value.okWide Tryd.prog W .any base 22 v0) (o1 : Value.okWide Tryd.prog W .any base 22 v1)
    (h0 : DataW.Trod enc Tryd.prog W 0 (fun _ => true) true 22 v0 d0 p0) (h1 : DataW.Trod enc Tryd.prog W 0 (fun _ => true) true 22 v1 d1 p1) (hL : LW W) :
    Calls Tryd.prog 3 #[v0, v1] W fun e W' => e = .returned (.bool true) ∧ Below W.heap.size W W' := by
  obtain ⟨A1, n1, c1, l1, rfl, hb1⟩ := open_bytes o0 h0
  obtain ⟨A2, n2, c2, l2, rfl, hb2⟩ := open_bytes o1 h1
  exact (comes_walk W hL A1 A2 n1 n2 c1 c2 l1 l2 hb1 hb2).mono fun e W' ⟨he, k⟩ => ⟨he, k.below (Nat.le_refl _) (by simp)⟩
end Go.Proofs.YtjppfdilfcokeaaDoor
