/-
  Opening the laws' arguments of EndpTakes: bytes, plain integers. No condition.
-/
import Derived.Test.YtakgohocimlagaaEpI
import Derived.OpenShut
import Derived.Lib.SmallJoins
import Derived.Deep.Strs
namespace Go.Proofs.Ytakgohocimlagaa
open Go.RowKit Go.ChangeShapes Go.WideShapes Go.ChangeAt Go.Joins
set_option linter.unusedVariables false
set_option linter.unusedSimpArgs false

set_option maxRecDepth 100000 in
theorem open_bytes {H : Type} {enc : TypeId × Value → H} {W : World} {v : Value} {d : DataW H} {p : List MemPlace} {b0 : Nat} (o : Value.okWide Try.prog W .any b0 22 v) (h : DataW.Trod enc Try.prog W 0 (fun _ => true) true 22 v d p) :
    ∃ A n c l, v = .slice A n c ∧ BytesV W (.slice A n c) l := by
  obtain ⟨a0, len, cap, rfl⟩ := okWide_slice Try.underlying22 o
  obtain ⟨fuel, hf⟩ := h
  rcases open_ints Try.underlying22 Try.underlying5 (by kernel_rfl) hf with ⟨hcs, _⟩ | ⟨a, len', cap', zs, hcs, hb, hl, hm, hzl, _, hcell, hwf⟩
  · simp [Value.cells] at hcs
    obtain ⟨rfl, rfl, rfl⟩ := hcs
    exact ⟨none, 0, 0, [], rfl, BytesV.nil _⟩
  · simp [Value.cells] at hcs
    obtain ⟨rfl, rfl, rfl⟩ := hcs
    simp only [if_true] at hzl
    have h8 : ∀ z ∈ zs, 0 ≤ z ∧ z ≤ 255 := fun z hz => bounds_u8 (hwf z hz)
    refine ⟨some a, len, cap, (zs.take len).map (fun z => UInt8.ofNat z.toNat), rfl, some a, cap, by simp; omega, by simp; omega, hm, fun hp => ?_⟩
    simp at hp
    have c0 := hcell 0 (by omega)
    have hsp : a.spot = none := by
      unfold World.cell? at c0
      simp only [Addr.add, if_true] at c0
      split at c0
      · split at c0
        · cases c0
        · rename_i hs; simpa using hs
      · cases c0
    obtain ⟨blk, off, sp⟩ := a
    simp only at hsp
    subst hsp
    refine ⟨blk, off, rfl, fun i x hx => ?_⟩
    have hi : i < ((zs.take len).map (fun z => UInt8.ofNat z.toNat)).length := (List.getElem?_eq_some_iff.1 hx).1
    simp at hi
    rw [List.getElem?_map, List.getElem?_take, if_pos (by omega), List.getElem?_eq_getElem (by omega)] at hx
    simp only [Option.map_some, Option.some.injEq] at hx
    have ci := hcell i (by omega)
    have e0 : (⟨blk, off, none⟩ : Addr).add i = ⟨blk, off + i, none⟩ := by unfold Addr.add; split <;> simp_all
    rw [e0] at ci
    rw [ci, ← hx]
    have hz := h8 zs[i] (List.getElem_mem _)
    simp only [u8V, List.getD_eq_getElem?_getD, List.getElem?_eq_getElem (show i < zs.length by omega), Option.getD_some]
    congr 2
    simp
    omega
set_option maxRecDepth 100000 in
theorem open_u32 {H : Type} {enc : TypeId × Value → H} {W : World} {base : Nat} {sp : Nat → Bool} {held : Bool} {v : Value} {d : DataW H} {p : List MemPlace} {b0 : Nat} (o : Value.okWide Try.prog W .any b0 23 v) (h : DataW.Trod enc Try.prog W base sp held 23 v d p) :
    ∃ n : Int, v = .int .u32 n ∧ 0 ≤ n ∧ n ≤ 4294967295 := by
  obtain ⟨n, rfl, _, _, wn⟩ := open_int Try.underlying23 o h
  exact ⟨n, rfl, bounds_u32 wn⟩
set_option maxRecDepth 100000 in
theorem open_u16 {H : Type} {enc : TypeId × Value → H} {W : World} {base : Nat} {sp : Nat → Bool} {held : Bool} {v : Value} {d : DataW H} {p : List MemPlace} {b0 : Nat} (o : Value.okWide Try.prog W .any b0 24 v) (h : DataW.Trod enc Try.prog W base sp held 24 v d p) :
    ∃ n : Int, v = .int .u16 n ∧ 0 ≤ n ∧ n ≤ 65535 := by
  obtain ⟨n, rfl, _, _, wn⟩ := open_int Try.underlying24 o h
  exact ⟨n, rfl, bounds_u16 wn⟩

/-- The elements of the law's pieces, as they lie in memory. -/
def PiecesE (W : World) (a0 : Option Addr) (len : Nat) : Prop :=
  len = 0 ∨ ∃ blk off, a0 = some ⟨blk, off, none⟩ ∧ blk < W.heap.size ∧ ∀ i, i < len → ∃ (frm long odd : Int), 0 ≤ frm ∧ frm ≤ 65535 ∧ 0 ≤ long ∧ long ≤ 65535 ∧ 0 ≤ odd ∧ odd ≤ 255 ∧
    W.cell? ⟨blk, off + i * 3, none⟩ = some (.int .u16 frm) ∧ W.cell? ⟨blk, off + i * 3 + 1, none⟩ = some (.int .u16 long) ∧ W.cell? ⟨blk, off + i * 3 + 2, none⟩ = some (.int .u8 odd)
theorem PiecesE.keep {W w : World} {q : Option Addr} {len : Nat} (h : PiecesE W q len) (k : Keeps [] W w) {i : Nat} (hi : i < len) : ∃ blk off, q = some ⟨blk, off, none⟩ ∧ ∃ (frm long odd : Int), 0 ≤ frm ∧ frm ≤ 65535 ∧ 0 ≤ long ∧ long ≤ 65535 ∧ 0 ≤ odd ∧ odd ≤ 255 ∧
    w.cell? ⟨blk, off + i * 3, none⟩ = some (.int .u16 frm) ∧ w.cell? ⟨blk, off + i * 3 + 1, none⟩ = some (.int .u16 long) ∧ w.cell? ⟨blk, off + i * 3 + 2, none⟩ = some (.int .u8 odd) := by
  rcases h with h | ⟨blk, off, rfl, hlt, h⟩
  · omega
  · obtain ⟨frm, long, tk, h1, h2, h3, h4, h5, h6, h7, h8, h9⟩ := h i hi
    exact ⟨blk, off, rfl, frm, long, tk, h1, h2, h3, h4, h5, h6, cell_keeps k h7 (by simp), cell_keeps k h8 (by simp), cell_keeps k h9 (by simp)⟩
theorem Try.cellsPc : Try.prog.cellsOf 37 = 3 := by kernel_rfl
set_option maxRecDepth 100000 in
theorem open_pieces {H : Type} {enc : TypeId × Value → H} {W : World} {v : Value} {d : DataW H} {p : List MemPlace} {b0 : Nat} (o : Value.okWide Try.prog W .any b0 25 v) (h : DataW.Trod enc Try.prog W 0 (fun _ => true) true 25 v d p) :
    ∃ a0 len cap, v = .slice a0 len cap ∧ len ≤ maxLen ∧ PiecesE W a0 len := by
  obtain ⟨a0, len, cap, rfl⟩ := okWide_slice Try.underlying25 o
  refine ⟨a0, len, cap, rfl, ?_⟩
  obtain ⟨fuel, hf⟩ := h
  rcases DataW.trod_slice Try.underlying25 hf with ⟨hcs, _⟩ | ⟨a, len', cap', elems, rest, n, _, hcs, _, hb, hl, hm, hlen, hel, _, _⟩
  · simp [Value.cells] at hcs
    exact ⟨by omega, Or.inl hcs.2.1⟩
  · simp [Value.cells] at hcs
    obtain ⟨rfl, rfl, rfl⟩ := hcs
    refine ⟨by omega, ?_⟩
    rcases Nat.eq_zero_or_pos len with h0 | hp
    · exact Or.inl h0
    · right
      rw [Try.cellsPc] at hel
      have key : ∀ i, i < len → ∃ (frm long odd : Int), 0 ≤ frm ∧ frm ≤ 65535 ∧ 0 ≤ long ∧ long ≤ 65535 ∧ 0 ≤ odd ∧ odd ≤ 255 ∧
          W.cell? (a.add (i * 3)) = some (.int .u16 frm) ∧ W.cell? ((a.add (i * 3)).add 1) = some (.int .u16 long) ∧ W.cell? ((a.add (i * 3)).add 2) = some (.int .u8 odd) := by
        intro i hi
        have he := hel i hi
        rw [List.getElem?_eq_getElem (by omega)] at he
        obtain ⟨cs, hc, ht⟩ := Option.bind_eq_some_iff.1 he
        obtain ⟨_, hcl, hcc⟩ := World.cells?_some hc
        obtain ⟨y0, y1, y2, m, _, _, h0, h1, h2⟩ := Deep.trod_struct3 Try.underlying37 ht
        match cs, hcl with
        | [c0, c1, c2], _ =>
          have e0 : Try.prog.cellsOf 24 = 1 := by kernel_rfl
          have e2 : Try.prog.cellsOf 5 = 1 := by kernel_rfl
          simp [e0] at h0
          simp [e0] at h1
          simp [e2] at h2
          obtain ⟨x0, q0, _, w0⟩ := DataW.trod_int Try.underlying24 h0
          obtain ⟨x1, q1, _, w1⟩ := DataW.trod_int Try.underlying24 h1
          obtain ⟨x2, q2, _, w2⟩ := DataW.trod_int Try.underlying5 h2
          simp at q0 q1 q2
          subst q0 q1 q2
          have b0 := bounds_u16 w0
          have b1 := bounds_u16 w1
          have b2 := bounds_u8 w2
          have g0 := hcc 0 (by omega)
          have g1 := hcc 1 (by omega)
          have g2 := hcc 2 (by omega)
          exact ⟨x0, x1, x2, b0.1, b0.2, b1.1, b1.2, b2.1, b2.2, by simpa [Addr.add] using g0, by simpa using g1, by simpa using g2⟩
      have hsp : a.spot = none := by
        obtain ⟨x, _, _, _, _, _, _, _, _, g, _⟩ := key 0 hp
        simp only [Nat.zero_mul, Addr.add, if_true] at g
        unfold World.cell? at g
        split at g
        · split at g
          · cases g
          · rename_i hs; simpa using hs
        · cases g
      obtain ⟨blk, off, sp⟩ := a
      simp only at hsp
      subst hsp
      have e3 : ∀ i j, ((⟨blk, off, none⟩ : Addr).add (i * 3)).add j = ⟨blk, off + i * 3 + j, none⟩ := by
        intro i j
        unfold Addr.add
        split <;> split <;> simp_all
      have e4 : ∀ i, ((⟨blk, off, none⟩ : Addr).add (i * 3)) = ⟨blk, off + i * 3, none⟩ := by
        intro i
        unfold Addr.add
        split <;> simp_all
      refine ⟨blk, off, rfl, ?_, fun i hi => ?_⟩
      · obtain ⟨x, _, _, _, _, _, _, _, _, g, _⟩ := key 0 hp
        rw [e4] at g
        exact lt_of_cell g
      · obtain ⟨x, y, z, b0, b1, b2, b3, b4, b5, g0, g1, g2⟩ := key i hi
        rw [e3] at g1 g2
        rw [e4] at g0
        exact ⟨x, y, z, b0, b1, b2, b3, b4, b5, g0, g1, g2⟩

end Go.Proofs.Ytakgohocimlagaa
