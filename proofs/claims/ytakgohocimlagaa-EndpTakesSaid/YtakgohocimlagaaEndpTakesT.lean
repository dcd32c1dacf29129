/-
  The law EndpTakes, its arguments opened. No condition.
-/
import Derived.Test.YtakgohocimlagaaEndpTakes2
namespace Go.Proofs.Ytakgohocimlagaa
open Go.RowKit Go.ChangeShapes Go.WideShapes Go.ChangeAt Go.Joins
set_option linter.unusedVariables false
set_option maxRecDepth 100000 in
theorem endpTakes_typed {H : Type} (enc : TypeId × Value → H) (W : World) (base : Nat) {v0 v1 v2 v3 v4 : Value} {d0 d1 d2 d3 d4 : DataW H} {p0 p1 p2 p3 p4 : List MemPlace}
    (o0 : Value.okWide Try.prog W .any base 22 v0) (o1 : Value.okWide Try.prog W .any base 23 v1) (o2 : Value.okWide Try.prog W .any base 23 v2) (o3 : Value.okWide Try.prog W .any base 24 v3) (o4 : Value.okWide Try.prog W .any base 25 v4)
    (h0 : DataW.Trod enc Try.prog W 0 (fun _ => true) true 22 v0 d0 p0) (h1 : DataW.Trod enc Try.prog W 0 (fun _ => true) true 23 v1 d1 p1) (h2 : DataW.Trod enc Try.prog W 0 (fun _ => true) true 23 v2 d2 p2) (h3 : DataW.Trod enc Try.prog W 0 (fun _ => true) true 24 v3 d3 p3) (h4 : DataW.Trod enc Try.prog W 0 (fun _ => true) true 25 v4 d4 p4) :
    Calls Try.prog 3 #[v0, v1, v2, v3, v4] W fun e W' => e = .returned (.bool true) ∧ Below W.heap.size W W' := by
  obtain ⟨A, n, c, l, rfl, hb⟩ := open_bytes o0 h0
  obtain ⟨iss, rfl, a1⟩ := open_u32 o1 h1
  obtain ⟨irs, rfl, a2⟩ := open_u32 o2 h2
  obtain ⟨room, rfl, r0, r1⟩ := open_u16 o3 h3
  obtain ⟨q, len, cap, rfl, hl, hp⟩ := open_pieces o4 h4
  exact (takes_walk W iss irs room a1 a2 r0 r1 A n c l hb q len cap hl hp).mono fun e w' ⟨he, kk⟩ => ⟨he, kk.below (Nat.le_refl _) (by simp)⟩
end Go.Proofs.Ytakgohocimlagaa
