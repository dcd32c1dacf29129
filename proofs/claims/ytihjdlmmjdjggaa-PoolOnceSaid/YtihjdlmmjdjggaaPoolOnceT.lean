/-
  The law PoolOnce over opened arguments. No condition.
-/
import Derived.Test.YtihjdlmmjdjggaaPoolOnce
namespace Go.Proofs.Ytihjdlmmjdjggaa
open Go.RowKit
theorem poolOnce_typed {H : Type} (enc : TypeId × Value → H) (W : World) (base : Nat) {v0 v1 : Value} {d0 d1 : DataW H} {p0 p1 : List MemPlace}
    (o0 : Value.okWide Try.prog W .any base 25 v0) (o1 : Value.okWide Try.prog W .any base 37 v1)
    (h0 : DataW.Trod enc Try.prog W 0 (fun _ => true) true 25 v0 d0 p0) (h1 : DataW.Trod enc Try.prog W 0 (fun _ => true) true 37 v1 d1 p1) :
    Calls Try.prog 4 #[v0, v1] W fun e W' => e = .returned (.bool true) ∧ Below W.heap.size W W' := by
  obtain ⟨low, high, rest, rfl, a0, a1, b0, b1, c0, c1⟩ := open_ends o0 h0
  obtain ⟨q, len, cap, rfl, hl, hact⟩ := open_acts o1 h1
  exact (once_walk W low high rest a0 a1 b0 b1 c0 c1 q len cap hl hact).mono fun e W' ⟨he, k⟩ => ⟨he, k.below (Nat.le_refl _) (by simp)⟩
end Go.Proofs.Ytihjdlmmjdjggaa
