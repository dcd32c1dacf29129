/-
  The law HttpMade over its arguments as they come in. Condition: the library's variables lie as listed.
-/
import Derived.Test.YtjppfdilfcokeaaDoorHttpMade
import Derived.Test.YtjppfdilfcokeaaDoorHttpV
namespace Go.Proofs.YtjppfdilfcokeaaDoor
open Go.RowKit Go.ChangeShapes Go.WideShapes Go.ChangeAt Go.Joins Go.Lib
set_option linter.unusedVariables false
set_option linter.unusedSimpArgs false

set_option maxRecDepth 100000 in
theorem open_str {H : Type} {enc : TypeId × Value → H} {W : World} {v : Value} {d : DataW H} {p : List MemPlace} {b0 : Nat} (o : Value.okWide Tryd.prog W .any b0 9 v) (h : DataW.Trod enc Tryd.prog W 0 (fun _ => true) true 9 v d p) : ∃ l : List UInt8, v = .string (bs l) ∧ l.length ≤ maxLen := by
  obtain ⟨s, rfl, _, _, hs⟩ := Go.ChangeMaps.open_string Tryd.underlying9 o h
  exact ⟨s.data.toList, by cases s; simp [bs], by rw [← size_eq]; exact hs⟩
set_option maxRecDepth 100000 in
theorem httpMade_typed {H : Type} (enc : TypeId × Value → H) (W : World) (base : Nat) {v0 v1 v2 : Value} {d0 d1 d2 : DataW H} {p0 p1 p2 : List MemPlace}
    (o0 : Value.okWide Tryd.prog W .any base 9 v0) (o1 : Value.okWide Tryd.prog W .any base 29 v1) (o2 : Value.okWide Tryd.prog W .any base 22 v2)
    (h0 : DataW.Trod enc Tryd.prog W 0 (fun _ => true) true 9 v0 d0 p0) (h1 : DataW.Trod enc Tryd.prog W 0 (fun _ => true) true 29 v1 d1 p1) (h2 : DataW.Trod enc Tryd.prog W 0 (fun _ => true) true 22 v2 d2 p2) (hL : LW W) :
    Calls Tryd.prog 5 #[v0, v1, v2] W fun e W' => e = .returned (.bool true) ∧ Below W.heap.size W W' := by
  obtain ⟨host, rfl, _⟩ := open_str o0 h0
  obtain ⟨A1, n1, c1, l1, rfl, hb1, hz⟩ := open_fields o1 h1
  obtain ⟨A2, n2, c2, l2, rfl, hb2⟩ := open_bytes o2 h2
  exact (made_walk W hL host A1 A2 n1 n2 c1 c2 l1 l2 hb1 hz hb2).mono fun e W' ⟨he, k⟩ => ⟨he, k.below (Nat.le_refl _) (by simp)⟩
end Go.Proofs.YtjppfdilfcokeaaDoor
