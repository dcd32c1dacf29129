/-
  Arguments of conn's laws opened: a script's numbers, a row's form. No condition.
-/
import Derived.Test.YtocnkiojlifgpaaGreatDoorCnV
namespace Go.Proofs.YtocnkiojlifgpaaGreatDoor
open Go.RowKit Go.ChangeShapes Go.WideShapes Go.ChangeAt Go.Joins Go.Lib
set_option linter.unusedVariables false
set_option linter.unusedSimpArgs false

theorem Tryz.oc8 : Tryz.prog.cellsOf 5 = 1 := by kernel_rfl
theorem Tryz.oc16 : Tryz.prog.cellsOf 22 = 1 := by kernel_rfl
theorem Tryz.oc32 : Tryz.prog.cellsOf 23 = 1 := by kernel_rfl
theorem Tryz.oci : Tryz.prog.cellsOf 3 = 1 := by kernel_rfl
theorem Tryz.ocb : Tryz.prog.cellsOf 4 = 1 := by kernel_rfl
theorem Tryz.oco : Tryz.prog.cellsOf 24 = 1 := by kernel_rfl
theorem Tryz.oca : Tryz.prog.cellsOf 27 = 1 := by kernel_rfl
theorem Tryz.och : Tryz.prog.cellsOf 26 = 3 := by kernel_rfl
theorem Tryz.ocs : Tryz.prog.cellsOf 29 = 8 := by kernel_rfl
theorem oarray4 {α : Type} {cs : Array α} (h : cs.size = 4) : ∃ c0 c1 c2 c3, cs = #[c0, c1, c2, c3] := by
  obtain ⟨l⟩ := cs
  match l, h with
  | [c0, c1, c2, c3], _ => exact ⟨c0, c1, c2, c3, rfl⟩
theorem oarray8 {α : Type} {cs : Array α} (h : cs.size = 8) : ∃ c0 c1 c2 c3 c4 c5 c6 c7, cs = #[c0, c1, c2, c3, c4, c5, c6, c7] := by
  obtain ⟨l⟩ := cs
  match l, h with
  | [c0, c1, c2, c3, c4, c5, c6, c7], _ => exact ⟨c0, c1, c2, c3, c4, c5, c6, c7, rfl⟩
theorem slice_form {H : Type} {enc : TypeId × Value → H} {P : Program} {W : World} {base : Nat} {sp : Nat → Bool} {held : Bool} {fuel : Nat} {t e : TypeId} {c : Value} {x : DataW H × List MemPlace} (ht : P.underlying t = some (.slice e)) (hf : DataW.trod enc P W base sp held fuel t [c] = some x) : ∃ A n k, c = .slice A n k := by
  rcases DataW.trod_slice ht hf with ⟨hcs, _⟩ | ⟨a, len, cap, elems, rest, n, _, hcs, _⟩
  · simp at hcs
    exact ⟨none, 0, 0, hcs⟩
  · simp at hcs
    exact ⟨some a, len, cap, hcs⟩
set_option maxRecDepth 100000 in
set_option maxHeartbeats 1000000 in
theorem open_script {H : Type} {enc : TypeId × Value → H} {W : World} {base : Nat} {v : Value} {d : DataW H} {p : List MemPlace} (o : Value.okWide Tryz.prog W .any base 29 v) (h : DataW.Trod enc Tryz.prog W 0 (fun _ => true) true 29 v d p) :
    ∃ (sn ms sc : Int) (sa : Bool) (sq : Int) (A1 : Option Addr) (n1 k1 : Nat) (lt : Int) (A2 : Option Addr) (n2 k2 : Nat), v = .agg #[.int .i64 sn, .int .u16 ms, .int .i64 sc, .bool sa, .int .u32 sq, .slice A1 n1 k1, .int .u8 lt, .slice A2 n2 k2] ∧ (-9223372036854775808 ≤ sn ∧ sn ≤ 9223372036854775807) ∧ (0 ≤ ms ∧ ms ≤ 65535) ∧ (-9223372036854775808 ≤ sc ∧ sc ≤ 9223372036854775807) ∧ (0 ≤ sq ∧ sq ≤ 4294967295) ∧ (0 ≤ lt ∧ lt ≤ 255) := by
  obtain ⟨cs, rfl, hsz⟩ := okWide_struct Tryz.underlying29 o
  obtain ⟨c0, c1, c2, c3, c4, c5, c6, c7, rfl⟩ := oarray8 (hsz.trans Tryz.ocs)
  obtain ⟨fuel, hf⟩ := h
  obtain ⟨xs, m, _, _, _, hlen, hg⟩ := DataW.trod_struct Tryz.underlying29 hf
  match xs, hlen with
  | [z0, z1, z2, z3, z4, z5], _ =>
    have g0 := hg 0 _ rfl
    have g1 := hg 1 _ rfl
    have g2 := hg 2 _ rfl
    have g3 := hg 3 _ rfl
    have g4 := hg 4 _ rfl
    have g5 := hg 5 _ rfl
    simp [Value.cells, Tryz.oci, Tryz.oc16, Tryz.ocb, Tryz.och, Tryz.oca] at g0 g1 g2 g3 g4 g5
    obtain ⟨sn, q0, _, w0⟩ := DataW.trod_int Tryz.underlying3 g0
    obtain ⟨ms, q1, _, w1⟩ := DataW.trod_int Tryz.underlying22 g1
    obtain ⟨sc, q2, _, w2⟩ := DataW.trod_int Tryz.underlying3 g2
    obtain ⟨sa, q3, _⟩ := DataW.trod_bool Tryz.underlying4 g3
    obtain ⟨A2, n2, k2, rfl⟩ := slice_form Tryz.underlying27 g5
    obtain ⟨ys, m2, _, _, _, hlen2, hg2⟩ := DataW.trod_struct Tryz.underlying26 g4
    match ys, hlen2 with
    | [y0, y1, y2], _ =>
      have e0 := hg2 0 _ rfl
      have e1 := hg2 1 _ rfl
      have e2 := hg2 2 _ rfl
      simp [Tryz.oc32, Tryz.oco, Tryz.oc8] at e0 e1 e2
      obtain ⟨sq, r0, _, v0⟩ := DataW.trod_int Tryz.underlying23 e0
      obtain ⟨A1, n1, k1, rfl⟩ := slice_form Tryz.underlying24 e1
      obtain ⟨lt, r2, _, v2⟩ := DataW.trod_int Tryz.underlying5 e2
      simp at q0 q1 q2 q3 r0 r2
      subst q0 q1 q2 q3 r0 r2
      exact ⟨sn, ms, sc, sa, sq, A1, n1, k1, lt, A2, n2, k2, rfl, bounds_i64 w0, bounds_u16 w1, bounds_i64 w2, bounds_u32 v0, bounds_u8 v2⟩
end Go.Proofs.YtocnkiojlifgpaaGreatDoor
