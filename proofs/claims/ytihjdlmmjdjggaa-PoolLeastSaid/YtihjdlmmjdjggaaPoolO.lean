/-
  Opening the laws' arguments of package pool: plain integers, the struct of three numbers. No condition.
-/
import Derived.Test.YtihjdlmmjdjggaaPoolW
import Derived.OpenShut
import Derived.Lib.SmallJoins
namespace Go.Proofs.Ytihjdlmmjdjggaa
open Go.RowKit Go.ChangeShapes Go.WideShapes Go.ChangeAt Go.Joins

theorem bd_u8 {n : Int} (h : (Lit.int .u8 n).wf = true) : 0 ≤ n ∧ n ≤ 255 := bounds_u8 h
theorem bd_u16 {n : Int} (h : (Lit.int .u16 n).wf = true) : 0 ≤ n ∧ n ≤ 65535 := bounds_u16 h
theorem bd_u64 {n : Int} (h : (Lit.int .u64 n).wf = true) : 0 ≤ n ∧ n ≤ 18446744073709551615 := bounds_u64 h

theorem Try.cells25 : Try.prog.cellsOf 25 = 3 := by kernel_rfl
theorem open_ends {H : Type} {enc : TypeId × Value → H} {W : World} {base : Nat} {sp : Nat → Bool} {held : Bool} {v : Value} {d : DataW H} {p : List MemPlace} {b0 : Nat} (o : Value.okWide Try.prog W .any b0 25 v) (h : DataW.Trod enc Try.prog W base sp held 25 v d p) :
    ∃ low high rest : Int, v = .agg #[.int .u16 low, .int .u16 high, .int .u64 rest] ∧ 0 ≤ low ∧ low ≤ 65535 ∧ 0 ≤ high ∧ high ≤ 65535 ∧ 0 ≤ rest ∧ rest ≤ 18446744073709551615 := by
  obtain ⟨c0, c1, c2, y0, y1, y2, m, rfl, _, _, h0, h1, h2⟩ := open_agg3 Try.underlying25 (by kernel_rfl) Try.cells25 o h
  obtain ⟨a, e0, _, wa⟩ := DataW.trod_int Try.underlying22 h0
  obtain ⟨b, e1, _, wb⟩ := DataW.trod_int Try.underlying22 h1
  obtain ⟨c, e2, _, wc⟩ := DataW.trod_int Try.underlying23 h2
  simp at e0 e1 e2
  subst e0 e1 e2
  have := bd_u16 wa
  have := bd_u16 wb
  have := bd_u64 wc
  exact ⟨a, b, c, rfl, by omega, by omega, by omega, by omega, by omega, by omega⟩
theorem open_u8 {H : Type} {enc : TypeId × Value → H} {W : World} {base : Nat} {sp : Nat → Bool} {held : Bool} {v : Value} {d : DataW H} {p : List MemPlace} {b0 : Nat} (o : Value.okWide Try.prog W .any b0 5 v) (h : DataW.Trod enc Try.prog W base sp held 5 v d p) :
    ∃ n : Int, v = .int .u8 n ∧ 0 ≤ n ∧ n ≤ 255 := by
  obtain ⟨n, rfl, _, _, wn⟩ := open_int Try.underlying5 o h
  exact ⟨n, rfl, bd_u8 wn⟩
end Go.Proofs.Ytihjdlmmjdjggaa
