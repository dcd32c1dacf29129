/-
  Opening the laws' arguments of package pool: plain integers, the struct of three numbers. No condition.
-/
import Derived.Test.YtihjdlmmjdjggaaPoolW
import Derived.OpenShut
import Derived.Lib.SmallJoins
import Derived.Deep.Strs
namespace Go.Proofs.Ytihjdlmmjdjggaa
open Go.RowKit Go.ChangeShapes Go.WideShapes Go.ChangeAt Go.Joins

theorem bd_u8 {n : Int} (h : (Lit.int .u8 n).wf = true) : 0 ≤ n ∧ n ≤ 255 := bounds_u8 h
theorem bd_u16 {n : Int} (h : (Lit.int .u16 n).wf = true) : 0 ≤ n ∧ n ≤ 65535 := bounds_u16 h
theorem bd_u64 {n : Int} (h : (Lit.int .u64 n).wf = true) : 0 ≤ n ∧ n ≤ 18446744073709551615 := bounds_u64 h

theorem Try.cells25 : Try.prog.cellsOf 25 = 3 := by kernel_rfl
theorem open_ends {H : Type} {enc : TypeId × Value → H} {W : World} {base : Nat} {sp : Nat → Bool} {held : Bool} {v : Value} {d : DataW H} {p : List MemPlace} {b0 : Nat} (o : Value.okWide Try.prog W .any b0 25 v) (h : DataW.Trod enc Try.prog W base sp held 25 v d p) :
    ∃ low high rest : Int, v = .agg #[.int .u16 low, .int .u16 high, .int .u64 rest] ∧ 0 ≤ low ∧ low ≤ 65535 ∧ 0 ≤ high ∧ high ≤ 65535 ∧ 0 ≤ rest ∧ rest ≤ 18446744073709551615 := by
  obtain ⟨c0, c1, c2, y0, y1, y2, m, rfl, _, _, h0, h1, h2⟩ := open_agg3 Try.underlying25 (by kernel_rfl) Try.cells25 o h
  obtain ⟨a, e0, _, wa⟩ := DataW.trod_int Try.underlying22 h0
  obtain ⟨b, e1, _, wb⟩ := DataW.trod_int Try.underlying22 h1
  obtain ⟨c, e2, _, wc⟩ := DataW.trod_int Try.underlying23 h2
  simp at e0 e1 e2
  subst e0 e1 e2
  have := bd_u16 wa
  have := bd_u16 wb
  have := bd_u64 wc
  exact ⟨a, b, c, rfl, by omega, by omega, by omega, by omega, by omega, by omega⟩
theorem open_u8 {H : Type} {enc : TypeId × Value → H} {W : World} {base : Nat} {sp : Nat → Bool} {held : Bool} {v : Value} {d : DataW H} {p : List MemPlace} {b0 : Nat} (o : Value.okWide Try.prog W .any b0 5 v) (h : DataW.Trod enc Try.prog W base sp held 5 v d p) :
    ∃ n : Int, v = .int .u8 n ∧ 0 ≤ n ∧ n ≤ 255 := by
  obtain ⟨n, rfl, _, _, wn⟩ := open_int Try.underlying5 o h
  exact ⟨n, rfl, bd_u8 wn⟩

/-- The elements of a slice of calls, as they lie in memory. -/
def ActsAt (W : World) (a0 : Option Addr) (len : Nat) : Prop :=
  len = 0 ∨ ∃ blk off, a0 = some ⟨blk, off, none⟩ ∧ blk < W.heap.size ∧ ∀ i, i < len → ∃ what port now : Int, 0 ≤ port ∧ port ≤ 65535 ∧ 0 ≤ now ∧ now ≤ 18446744073709551615 ∧
    W.cell? ⟨blk, off + i * 3, none⟩ = some (.int .i64 what) ∧ W.cell? ⟨blk, off + i * 3 + 1, none⟩ = some (.int .u16 port) ∧ W.cell? ⟨blk, off + i * 3 + 2, none⟩ = some (.int .u64 now)

theorem Try.cells41 : Try.prog.cellsOf 41 = 3 := by kernel_rfl

theorem open_acts {H : Type} {enc : TypeId × Value → H} {W : World} {v : Value} {d : DataW H} {p : List MemPlace} {b0 : Nat} (o : Value.okWide Try.prog W .any b0 37 v) (h : DataW.Trod enc Try.prog W 0 (fun _ => true) true 37 v d p) :
    ∃ a0 len cap, v = .slice a0 len cap ∧ len ≤ maxLen ∧ ActsAt W a0 len := by
  obtain ⟨a0, len, cap, rfl⟩ := okWide_slice Try.underlying37 o
  refine ⟨a0, len, cap, rfl, ?_⟩
  obtain ⟨fuel, hf⟩ := h
  rcases DataW.trod_slice Try.underlying37 hf with ⟨hcs, _⟩ | ⟨a, len', cap', elems, rest, n, _, hcs, _, hb, hl, hm, hlen, hel, _, _⟩
  · simp [Value.cells] at hcs
    exact ⟨by omega, Or.inl hcs.2.1⟩
  · simp [Value.cells] at hcs
    obtain ⟨rfl, rfl, rfl⟩ := hcs
    refine ⟨by omega, ?_⟩
    rcases Nat.eq_zero_or_pos len with h0 | hp
    · exact Or.inl h0
    · right
      rw [Try.cells41] at hel
      have key : ∀ i, i < len → ∃ what port now : Int, 0 ≤ port ∧ port ≤ 65535 ∧ 0 ≤ now ∧ now ≤ 18446744073709551615 ∧
          W.cell? (a.add (i * 3)) = some (.int .i64 what) ∧ W.cell? ((a.add (i * 3)).add 1) = some (.int .u16 port) ∧ W.cell? ((a.add (i * 3)).add 2) = some (.int .u64 now) := by
        intro i hi
        have he := hel i hi
        rw [List.getElem?_eq_getElem (by omega)] at he
        obtain ⟨cs, hc, ht⟩ := Option.bind_eq_some_iff.1 he
        obtain ⟨_, hcl, hcc⟩ := World.cells?_some hc
        obtain ⟨y0, y1, y2, m, _, _, h0, h1, h2⟩ := Deep.trod_struct3 Try.underlying41 ht
        match cs, hcl with
        | [c0, c1, c2], _ =>
          have e0 : Try.prog.cellsOf 3 = 1 := by kernel_rfl
          have e1 : Try.prog.cellsOf 22 = 1 := by kernel_rfl
          have e2 : Try.prog.cellsOf 23 = 1 := by kernel_rfl
          simp [e0] at h0
          simp [e1] at h1
          simp [e2] at h2
          obtain ⟨x0, q0, _, w0⟩ := DataW.trod_int Try.underlying3 h0
          obtain ⟨x1, q1, _, w1⟩ := DataW.trod_int Try.underlying22 h1
          obtain ⟨x2, q2, _, w2⟩ := DataW.trod_int Try.underlying23 h2
          simp at q0 q1 q2
          subst q0 q1 q2
          have b1 := bd_u16 w1
          have b2 := bd_u64 w2
          have g0 := hcc 0 (by omega)
          have g1 := hcc 1 (by omega)
          have g2 := hcc 2 (by omega)
          exact ⟨x0, x1, x2, b1.1, b1.2, b2.1, b2.2, by simpa [Addr.add] using g0, by simpa using g1, by simpa using g2⟩
      have hsp : a.spot = none := by
        obtain ⟨x, _, _, _, _, _, _, g, _⟩ := key 0 hp
        simp only [Nat.zero_mul, Addr.add, if_true] at g
        unfold World.cell? at g
        split at g
        · split at g
          · cases g
          · rename_i hs; simpa using hs
        · cases g
      obtain ⟨blk, off, sp⟩ := a
      simp only at hsp
      subst hsp
      have e3 : ∀ i j, ((⟨blk, off, none⟩ : Addr).add (i * 3)).add j = ⟨blk, off + i * 3 + j, none⟩ := by
        intro i j
        unfold Addr.add
        split <;> split <;> simp_all
      have e4 : ∀ i, ((⟨blk, off, none⟩ : Addr).add (i * 3)) = ⟨blk, off + i * 3, none⟩ := by
        intro i
        unfold Addr.add
        split <;> simp_all
      refine ⟨blk, off, rfl, ?_, fun i hi => ?_⟩
      · obtain ⟨x, _, _, _, _, _, _, g, _⟩ := key 0 hp
        rw [e4] at g
        unfold World.cell? at g
        split at g
        · rename_i hh; exact (Array.getElem?_eq_some_iff.1 hh).1
        · cases g
      · obtain ⟨x, y, z, b0, b1, b2, b3, g0, g1, g2⟩ := key i hi
        rw [e3] at g1 g2
        rw [e4] at g0
        exact ⟨x, y, z, b0, b1, b2, b3, g0, g1, g2⟩
end Go.Proofs.Ytihjdlmmjdjggaa
