/-
  The law TlsComes over its arguments as they come in. No condition but that the library's variables lie as listed (LW).
-/
import Derived.Test.YthcpeceamiibaaaDoorTlsComes
import Derived.Test.YthcpeceamiibaaaDoorTlsHo
namespace Go.Proofs.YthcpeceamiibaaaDoor
open Go.RowKit Go.ChangeShapes Go.WideShapes Go.ChangeAt Go.Joins Go.Lib
set_option linter.unusedVariables false
set_option linter.unusedSimpArgs false

theorem Tryd.ccc : Tryd.prog.cellsOf 28 = 2 := by kernel_rfl
theorem Tryd.cc16 : Tryd.prog.cellsOf 26 = 1 := by kernel_rfl
theorem array2 {α : Type} {cs : Array α} (h : cs.size = 2) : ∃ c0 c1, cs = #[c0, c1] := by
  obtain ⟨l⟩ := cs
  match l, h with
  | [c0, c1], _ => exact ⟨c0, c1, rfl⟩
set_option maxRecDepth 100000 in
set_option maxHeartbeats 4000000 in
theorem open_comes {H : Type} {enc : TypeId × Value → H} {W : World} {v : Value} {d : DataW H} {p : List MemPlace} {b0 : Nat} (o : Value.okWide Tryd.prog W .any b0 28 v) (h : DataW.Trod enc Tryd.prog W 0 (fun _ => true) true 28 v d p) :
    ∃ ct : Nat, ∃ A1 n1 c1 l1, v = .agg #[.int .u16 ct, .slice A1 n1 c1] ∧ ct < 65536 ∧ BytesV W (.slice A1 n1 c1) l1 := by
  obtain ⟨cs, rfl, hsz⟩ := okWide_struct Tryd.underlying28 o
  obtain ⟨c0, c1, rfl⟩ := array2 (hsz.trans Tryd.ccc)
  obtain ⟨fuel, hf⟩ := h
  obtain ⟨xs, m, _, _, _, hlen, hg⟩ := DataW.trod_struct Tryd.underlying28 hf
  match xs, hlen with
  | [z0, z1], _ =>
    have g0 := hg 0 _ rfl
    have g1 := hg 1 _ rfl
    simp [Value.cells, Tryd.cc16, Tryd.cc1] at g0 g1
    obtain ⟨n, q0, _, hw⟩ := DataW.trod_int Tryd.underlying26 g0
    simp at q0
    subst q0
    obtain ⟨A1, n1, k1, l1, rfl, hb1⟩ := bytes_in g1
    have hb := bounds_u16 hw
    refine ⟨n.toNat, A1, n1, k1, l1, ?_, by omega, hb1⟩
    rw [Int.toNat_of_nonneg hb.1]
set_option maxRecDepth 100000 in
theorem tlsComes_typed {H : Type} (enc : TypeId × Value → H) (W : World) (base : Nat) {v0 v1 : Value} {d0 d1 : DataW H} {p0 p1 : List MemPlace}
    (o0 : Value.okWide Tryd.prog W .any base 25 v0) (o1 : Value.okWide Tryd.prog W .any base 28 v1)
    (h0 : DataW.Trod enc Tryd.prog W 0 (fun _ => true) true 25 v0 d0 p0) (h1 : DataW.Trod enc Tryd.prog W 0 (fun _ => true) true 28 v1 d1 p1) (hL : LW W) :
    Calls Tryd.prog 3 #[v0, v1] W fun e W' => e = .returned (.bool true) ∧ Below W.heap.size W W' := by
  obtain ⟨s, A1, n1, c1, l1, A2, n2, c2, l2, A3, n3, c3, l3, rfl, hb1, hb2, hb3⟩ := open_made o0 h0
  obtain ⟨ct, A4, n4, c4, l4, rfl, hct, hb4⟩ := open_comes o1 h1
  exact (comes_walk W hL s A1 A2 A3 A4 n1 n2 n3 n4 c1 c2 c3 c4 ct l1 l2 l4 l3 hb1 hb2 hb3 hb4 hct).mono fun e W' ⟨he, k⟩ => ⟨he, k.below (Nat.le_refl _) (by simp)⟩
end Go.Proofs.YthcpeceamiibaaaDoor
