/-
  CookieBack over its arguments as they come in. No condition.
-/
import Derived.Test.YtkmhekfpfmhebaaDoorCookieBack
namespace Go.Proofs.YtkmhekfpfmhebaaDoor
open Go.ChangeShapes Go.WideShapes Go.ChangeAt Go.RowKit Go.Joins

theorem cookieBack_typed {H : Type} (enc : TypeId × Value → H) (W : World) (base : Nat) {v0 v1 v2 : Value} {d0 d1 d2 : DataW H} {p0 p1 p2 : List MemPlace}
    (o0 : Value.okWide Tryd.prog W .any base 28 v0) (o1 : Value.okWide Tryd.prog W .any base 30 v1) (o2 : Value.okWide Tryd.prog W .any base 51 v2)
    (h0 : DataW.Trod enc Tryd.prog W 0 (fun _ => true) true 28 v0 d0 p0) (h1 : DataW.Trod enc Tryd.prog W 0 (fun _ => true) true 30 v1 d1 p1) (h2 : DataW.Trod enc Tryd.prog W 0 (fun _ => true) true 51 v2 d2 p2) (hL : Laid W) :
    Calls Tryd.prog 8 #[v0, v1, v2] W fun e W' => e = .returned (.bool true) ∧ Below W.heap.size W W' := by
  obtain ⟨key, t, cl, tick, rfl, hk, ht, ⟨hc0, hc1⟩, he0, _⟩ := open_shake o0 h0
  obtain ⟨x, rfl, hx⟩ := open_info o1 h1
  obtain ⟨a, b, c, rfl, ⟨a0, a1⟩, _, c0, c1⟩ := open_later o2 h2
  exact (back_walk W hL key t cl tick x a b c hk ht hc0 hc1 he0 hx a0 a1 c0 c1).mono fun e W' ⟨he, k⟩ => ⟨he, k.below (Nat.le_refl _) (by simp)⟩
end Go.Proofs.YtkmhekfpfmhebaaDoor
