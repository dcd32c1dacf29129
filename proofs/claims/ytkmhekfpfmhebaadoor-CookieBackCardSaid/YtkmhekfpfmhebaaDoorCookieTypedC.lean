/-
  CookieChecks over its arguments as they come in. No condition.
-/
import Derived.Test.YtkmhekfpfmhebaaDoorCookieChecks
namespace Go.Proofs.YtkmhekfpfmhebaaDoor
open Go.ChangeShapes Go.WideShapes Go.ChangeAt Go.RowKit Go.Joins

theorem Tryd.c51 : Tryd.prog.cellsOf 51 = 3 := by kernel_rfl
theorem open_later {H : Type} {enc : TypeId × Value → H} {W : World} {base : Nat} {sp : Nat → Bool} {held : Bool} {v : Value} {d : DataW H} {p : List MemPlace} {b0 : Nat} (o : Value.okWide Tryd.prog W .any b0 51 v) (h : DataW.Trod enc Tryd.prog W base sp held 51 v d p) :
    ∃ a b c : Int, v = .agg #[.int .u32 a, .int .u32 b, .int .u64 c] ∧ (0 ≤ a ∧ a ≤ 4294967295) ∧ (0 ≤ b ∧ b ≤ 4294967295) ∧ (0 ≤ c ∧ c ≤ 18446744073709551615) := by
  obtain ⟨c0, c1, c2, y0, y1, y2, m, rfl, _, _, h0, h1, h2⟩ := open_agg3 Tryd.underlying51 (by kernel_rfl) Tryd.c51 o h
  obtain ⟨a, e0, _, wa⟩ := DataW.trod_int Tryd.underlying23 h0
  obtain ⟨b, e1, _, wb⟩ := DataW.trod_int Tryd.underlying23 h1
  obtain ⟨c, e2, _, wc⟩ := DataW.trod_int Tryd.underlying22 h2
  simp at e0 e1 e2
  subst e0 e1 e2
  exact ⟨a, b, c, rfl, bd_u32 wa, bd_u32 wb, bd_u64 wc⟩
theorem cookieChecks_typed {H : Type} (enc : TypeId × Value → H) (W : World) (base : Nat) {v0 v1 v2 : Value} {d0 d1 d2 : DataW H} {p0 p1 p2 : List MemPlace}
    (o0 : Value.okWide Tryd.prog W .any base 28 v0) (o1 : Value.okWide Tryd.prog W .any base 30 v1) (o2 : Value.okWide Tryd.prog W .any base 51 v2)
    (h0 : DataW.Trod enc Tryd.prog W 0 (fun _ => true) true 28 v0 d0 p0) (h1 : DataW.Trod enc Tryd.prog W 0 (fun _ => true) true 30 v1 d1 p1) (h2 : DataW.Trod enc Tryd.prog W 0 (fun _ => true) true 51 v2 d2 p2) (hL : Laid W) :
    Calls Tryd.prog 7 #[v0, v1, v2] W fun e W' => e = .returned (.bool true) ∧ Below W.heap.size W W' := by
  obtain ⟨key, t, cl, tick, rfl, hk, ht, ⟨hc0, hc1⟩, he0, he1⟩ := open_shake o0 h0
  obtain ⟨x, rfl, hx⟩ := open_info o1 h1
  obtain ⟨a, b, c, rfl, ⟨a0, a1⟩, ⟨b0, b1⟩, _⟩ := open_later o2 h2
  exact (checks_walk W hL key t cl tick x a b c hk ht hc0 hc1 he0 he1 hx a0 a1 b0 b1).mono fun e W' ⟨he, k⟩ => ⟨he, k.below (Nat.le_refl _) (by simp)⟩
end Go.Proofs.YtkmhekfpfmhebaaDoor
