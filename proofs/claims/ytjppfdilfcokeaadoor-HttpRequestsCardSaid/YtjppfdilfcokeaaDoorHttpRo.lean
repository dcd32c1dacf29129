/-
  The law HttpRequests over its arguments as they come in. Condition: the library's variables lie as listed; the row's own bound on sizes.
-/
import Derived.Test.YtjppfdilfcokeaaDoorHttpReq
namespace Go.Proofs.YtjppfdilfcokeaaDoor
open Go.RowKit Go.ChangeShapes Go.WideShapes Go.ChangeAt Go.Joins Go.Lib
set_option linter.unusedVariables false
set_option linter.unusedSimpArgs false

set_option maxRecDepth 100000 in
theorem httpRequests_typed {H : Type} (enc : TypeId × Value → H) (W : World) (base : Nat) {v0 v1 : Value} {d0 d1 : DataW H} {p0 p1 : List MemPlace}
    (o0 : Value.okWide Tryd.prog W .any base 9 v0) (o1 : Value.okWide Tryd.prog W .any base 29 v1)
    (h0 : DataW.Trod enc Tryd.prog W 0 (fun _ => true) true 9 v0 d0 p0) (h1 : DataW.Trod enc Tryd.prog W 0 (fun _ => true) true 29 v1 d1 p1)
    (hwt : ∀ n ∈ d1.weights Tryd.prog 29, n ≤ reachBytes) (hL : LW W) :
    Calls Tryd.prog 4 #[v0, v1] W fun e W' => e = .returned (.bool true) ∧ Below W.heap.size W W' := by
  obtain ⟨s, rfl⟩ := okWide_string Tryd.underlying9 o0
  obtain ⟨A1, n1, c1, l1, rfl, hb1, hz⟩ := open_fields2 o1 h1 hwt
  rw [show s = bs s.data.toList by cases s; simp [bs]]
  exact (requests_walk W hL s.data.toList A1 n1 c1 l1 hb1 hz).mono fun e W' ⟨he, k⟩ => ⟨he, k.below (Nat.le_refl _) (by simp)⟩
end Go.Proofs.YtjppfdilfcokeaaDoor
