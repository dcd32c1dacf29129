/-
  The law HttpAuthority over its arguments as they come in. Condition: the library's variables lie as listed; a contract of strings.ContainsAny.
-/
import Derived.Test.YtjppfdilfcokeaaDoorHttpAuth
import Derived.Test.YtjppfdilfcokeaaDoorHttpMo
namespace Go.Proofs.YtjppfdilfcokeaaDoor
open Go.RowKit Go.ChangeShapes Go.WideShapes Go.ChangeAt Go.Joins Go.Lib
set_option linter.unusedVariables false
set_option linter.unusedSimpArgs false

theorem Tryd.ccA : Tryd.prog.cellsOf 46 = 2 := by kernel_rfl
theorem Tryd.ccB : Tryd.prog.cellsOf 5 = 1 := by kernel_rfl
set_option maxRecDepth 100000 in
theorem open_two {H : Type} {enc : TypeId × Value → H} {W : World} {v : Value} {d : DataW H} {p : List MemPlace} (h : DataW.Trod enc Tryd.prog W 0 (fun _ => true) true 46 v d p) : ∃ b0 b1 : Nat, v = .agg #[.int .u8 b0, .int .u8 b1] ∧ b0 < 256 ∧ b1 < 256 := by
  obtain ⟨fuel, hf⟩ := h
  obtain ⟨xs, m, _, _, hl, hx, hg⟩ := DataW.trod_array Tryd.underlying46 hf
  rw [Tryd.ccA] at hl
  rw [Tryd.ccB] at hg
  obtain ⟨cs, hcs⟩ : ∃ cs, v = .agg cs := by
    cases v with
    | agg cs => exact ⟨cs, rfl⟩
    | _ => simp [Value.cells] at hl
  subst hcs
  simp only [Value.cells] at hl hg
  obtain ⟨l⟩ := cs
  match l, hl, xs, hx with
  | [c0, c1], _, [x0, x1], _ =>
    have g0 := hg 0 (by omega)
    have g1 := hg 1 (by omega)
    simp at g0 g1
    obtain ⟨z0, q0, _, w0⟩ := DataW.trod_int Tryd.underlying5 g0
    obtain ⟨z1, q1, _, w1⟩ := DataW.trod_int Tryd.underlying5 g1
    simp at q0 q1
    subst q0 q1
    have h0 := bounds_u8 w0
    have h1 := bounds_u8 w1
    refine ⟨z0.toNat, z1.toNat, ?_, by omega, by omega⟩
    rw [Int.toNat_of_nonneg h0.1, Int.toNat_of_nonneg h1.1]
set_option maxRecDepth 100000 in
theorem httpAuthority_typed0 (hca : ∀ s : List UInt8, s.length ≤ 300 → CAny s) {H : Type} (enc : TypeId × Value → H) (W : World) (base : Nat) {v0 v1 : Value} {d0 d1 : DataW H} {p0 p1 : List MemPlace}
    (o0 : Value.okWide Tryd.prog W .any base 9 v0) (o1 : Value.okWide Tryd.prog W .any base 46 v1)
    (h0 : DataW.Trod enc Tryd.prog W 0 (fun _ => true) true 9 v0 d0 p0) (h1 : DataW.Trod enc Tryd.prog W 0 (fun _ => true) true 46 v1 d1 p1) (hL : LW W) :
    Calls Tryd.prog 7 #[v0, v1] W fun e W' => e = .returned (.bool true) ∧ Below W.heap.size W W' := by
  obtain ⟨s, rfl, hs⟩ := open_str o0 h0
  obtain ⟨b0, b1, rfl, q0, q1⟩ := open_two h1
  exact (auth_walk W hL s (hca s) hs b0 b1 q0 q1).mono fun e W' ⟨he, k⟩ => ⟨he, k.below (Nat.le_refl _) (by simp)⟩
end Go.Proofs.YtjppfdilfcokeaaDoor
