/-
  The cookie laws' arguments opened, and the table out of the row's condition. No condition.
-/
import Derived.Test.YtkmhekfpfmhebaaDoorCookieA
import Derived.ProofKit
import Derived.OpenShut
import Derived.LaidLaws
import Derived.Lib.LaidTab
import Derived.Lib.SmallJoins
import Derived.JoinedOf
import Derived.Handed
import Derived.Deep.Strs
namespace Go.Proofs.YtkmhekfpfmhebaaDoor
open Go.ChangeShapes Go.WideShapes Go.ChangeAt Go.RowKit Go.Joins

theorem Tryd.gT : Tryd.prog.globalNamed "culvert/cookie.classes" = some 0 := by kernel_rfl
theorem Tryd.gTType : (Tryd.prog.globals[0]?).map (·.type) = some 59 := by kernel_rfl
theorem Tryd.c5 : Tryd.prog.cellsOf 5 = 1 := by kernel_rfl
theorem Tryd.c22 : Tryd.prog.cellsOf 22 = 1 := by kernel_rfl
theorem Tryd.c23 : Tryd.prog.cellsOf 23 = 1 := by kernel_rfl
theorem Tryd.c24 : Tryd.prog.cellsOf 24 = 1 := by kernel_rfl
theorem Tryd.c26 : Tryd.prog.cellsOf 26 = 5 := by kernel_rfl
theorem Tryd.c28 : Tryd.prog.cellsOf 28 = 8 := by kernel_rfl
theorem Tryd.c30 : Tryd.prog.cellsOf 30 = 3 := by kernel_rfl
theorem Tryd.ct : Tryd.prog.cellsOf 59 = 8 := by kernel_rfl
theorem bd_u8 {n : Int} (h : (Lit.int .u8 n).wf = true) : 0 ≤ n ∧ n ≤ 255 := bounds_u8 h
theorem bd_u16 {n : Int} (h : (Lit.int .u16 n).wf = true) : 0 ≤ n ∧ n ≤ 65535 := bounds_u16 h
theorem bd_u32 {n : Int} (h : (Lit.int .u32 n).wf = true) : 0 ≤ n ∧ n ≤ 4294967295 := bounds_u32 h
theorem bd_u64 {n : Int} (h : (Lit.int .u64 n).wf = true) : 0 ≤ n ∧ n ≤ 18446744073709551615 := bounds_u64 h
theorem bd_i64 {n : Int} (h : (Lit.int .i64 n).wf = true) : -9223372036854775808 ≤ n ∧ n ≤ 9223372036854775807 := bounds_i64 h

theorem laid_of {W : World} (h : laidMet Tryd.prog [("culvert/cookie.classes", Rows.laid_culvert_cookie_classes)] W) : Laid W := by
  have hT : Lib.TabIs Tryd.prog W "culvert/cookie.classes" .u16 tab := Lib.tabIs_of_head Tryd.gT Tryd.gTType Tryd.underlying59 Tryd.underlying24 Tryd.c24 Tryd.ct h
  intro k hk
  exact hT.cell Tryd.gT k hk
/-- The settled world, but the table lies as the row lists it. -/
noncomputable def tabWorld (os : Os) : World :=
  let w0 := World.holding Tryd.prog os ⟨#[], #[], []⟩
  { w0 with heap := w0.heap.modify 0 fun
      | .cells _ t frozen => .cells (tab.map fun z => Value.int .u16 z).toArray t frozen
      | o => o }
theorem laid_met (os : Os) (args : Array Value) : laidMet Tryd.prog [("culvert/cookie.classes", Rows.laid_culvert_cookie_classes)] ((tabWorld os).forCall (fun _ _ => 0) ⟨#[], args, []⟩).memory :=
  laidMet_of_run' 8 (by kernel_rfl) (by kernel_rfl)
theorem array8 {α : Type} {cs : Array α} (h : cs.size = 8) : ∃ c0 c1 c2 c3 c4 c5 c6 c7, cs = #[c0, c1, c2, c3, c4, c5, c6, c7] := by
  obtain ⟨l⟩ := cs
  match l, h with
  | [c0, c1, c2, c3, c4, c5, c6, c7], _ => exact ⟨c0, c1, c2, c3, c4, c5, c6, c7, rfl⟩

theorem open_u16 {H : Type} {enc : TypeId × Value → H} {W : World} {base : Nat} {sp : Nat → Bool} {held : Bool} {v : Value} {d : DataW H} {p : List MemPlace} {b0 : Nat} (o : Value.okWide Tryd.prog W .any b0 24 v) (h : DataW.Trod enc Tryd.prog W base sp held 24 v d p) :
    ∃ n : Int, v = .int .u16 n ∧ 0 ≤ n ∧ n ≤ 65535 := by
  obtain ⟨n, rfl, _, _, wn⟩ := open_int Tryd.underlying24 o h
  exact ⟨n, rfl, bd_u16 wn⟩
theorem open_u8 {H : Type} {enc : TypeId × Value → H} {W : World} {base : Nat} {sp : Nat → Bool} {held : Bool} {v : Value} {d : DataW H} {p : List MemPlace} {b0 : Nat} (o : Value.okWide Tryd.prog W .any b0 5 v) (h : DataW.Trod enc Tryd.prog W base sp held 5 v d p) :
    ∃ n : Int, v = .int .u8 n ∧ 0 ≤ n ∧ n ≤ 255 := by
  obtain ⟨n, rfl, _, _, wn⟩ := open_int Tryd.underlying5 o h
  exact ⟨n, rfl, bd_u8 wn⟩
theorem open_i64 {H : Type} {enc : TypeId × Value → H} {W : World} {base : Nat} {sp : Nat → Bool} {held : Bool} {v : Value} {d : DataW H} {p : List MemPlace} {b0 : Nat} (o : Value.okWide Tryd.prog W .any b0 3 v) (h : DataW.Trod enc Tryd.prog W base sp held 3 v d p) :
    ∃ n : Int, v = .int .i64 n ∧ -9223372036854775808 ≤ n ∧ n ≤ 9223372036854775807 := by
  obtain ⟨n, rfl, _, _, wn⟩ := open_int Tryd.underlying3 o h
  exact ⟨n, rfl, bd_i64 wn⟩
theorem open_info {H : Type} {enc : TypeId × Value → H} {W : World} {base : Nat} {sp : Nat → Bool} {held : Bool} {v : Value} {d : DataW H} {p : List MemPlace} {b0 : Nat} (o : Value.okWide Tryd.prog W .any b0 30 v) (h : DataW.Trod enc Tryd.prog W base sp held 30 v d p) :
    ∃ x : Inf, v = infV x ∧ x.In := by
  obtain ⟨c0, c1, c2, y0, y1, y2, m, rfl, _, _, h0, h1, h2⟩ := open_agg3 Tryd.underlying30 (by kernel_rfl) Tryd.c30 o h
  obtain ⟨a, e0, _, wa⟩ := DataW.trod_int Tryd.underlying3 h0
  obtain ⟨b, e1, _⟩ := DataW.trod_bool Tryd.underlying4 h1
  obtain ⟨c, e2, _, wc⟩ := DataW.trod_int Tryd.underlying3 h2
  simp at e0 e1 e2
  subst e0 e1 e2
  have := bd_i64 wa
  have := bd_i64 wc
  exact ⟨⟨a, b, c⟩, rfl, ⟨by simp; omega, by simp; omega, by simp; omega, by simp; omega⟩⟩
theorem open_shake {H : Type} {enc : TypeId × Value → H} {W : World} {base : Nat} {sp : Nat → Bool} {held : Bool} {v : Value} {d : DataW H} {p : List MemPlace} {b0 : Nat} (o : Value.okWide Tryd.prog W .any b0 28 v) (h : DataW.Trod enc Tryd.prog W base sp held 28 v d p) :
    ∃ (key : Int) (t : Tup) (cl tick : Int), v = .agg #[.int .u64 key, .int .u8 t.p, .int .u32 t.a, .int .u32 t.b, .int .u16 t.c, .int .u16 t.d, .int .u32 cl, .int .u64 tick] ∧ U64 key ∧ t.Ok ∧ (0 ≤ cl ∧ cl ≤ 4294967295) ∧ (0 ≤ tick ∧ tick ≤ 18446744073709551615) := by
  obtain ⟨cs, rfl, hsz⟩ := okWide_struct Tryd.underlying28 o
  obtain ⟨c0, c1, c2, c3, c4, c5, c6, c7, rfl⟩ := array8 (hsz.trans Tryd.c28)
  obtain ⟨fuel, hf⟩ := h
  obtain ⟨y0, y1, y2, y3, n, hx, _, h0, h1, h2, h3⟩ := trod_struct4 Tryd.underlying28 hf
  simp [Value.cells, Tryd.c22, Tryd.c23, Tryd.c26] at h0 h1 h2 h3
  obtain ⟨xs, m, _, _, _, hlen, hg⟩ := DataW.trod_struct Tryd.underlying26 h1
  match xs, hlen with
  | [z0, z1, z2, z3, z4], _ =>
    have g0 := hg 0 _ rfl
    have g1 := hg 1 _ rfl
    have g2 := hg 2 _ rfl
    have g3 := hg 3 _ rfl
    have g4 := hg 4 _ rfl
    simp [Tryd.c5, Tryd.c23, Tryd.c24] at g0 g1 g2 g3 g4
    obtain ⟨k, e0, _, w0⟩ := DataW.trod_int Tryd.underlying22 h0
    obtain ⟨l, e1, _, w1⟩ := DataW.trod_int Tryd.underlying23 h2
    obtain ⟨t, e2, _, w2⟩ := DataW.trod_int Tryd.underlying22 h3
    obtain ⟨p0, f0, _, v0⟩ := DataW.trod_int Tryd.underlying5 g0
    obtain ⟨p1, f1, _, v1⟩ := DataW.trod_int Tryd.underlying23 g1
    obtain ⟨p2, f2, _, v2⟩ := DataW.trod_int Tryd.underlying23 g2
    obtain ⟨p3, f3, _, v3⟩ := DataW.trod_int Tryd.underlying24 g3
    obtain ⟨p4, f4, _, v4⟩ := DataW.trod_int Tryd.underlying24 g4
    simp at e0 e1 e2 f0 f1 f2 f3 f4
    subst e0 e1 e2 f0 f1 f2 f3 f4
    have a0 := bd_u8 v0
    have a1 := bd_u32 v1
    have a2 := bd_u32 v2
    have a3 := bd_u16 v3
    have a4 := bd_u16 v4
    exact ⟨k, ⟨p0, p1, p2, p3, p4⟩, l, t, rfl, bd_u64 w0, ⟨a0.1, a0.2, a1.1, a1.2, a2.1, a2.2, a3.1, a3.2, a4.1, a4.2⟩, bd_u32 w1, bd_u64 w2⟩
end Go.Proofs.YtkmhekfpfmhebaaDoor
