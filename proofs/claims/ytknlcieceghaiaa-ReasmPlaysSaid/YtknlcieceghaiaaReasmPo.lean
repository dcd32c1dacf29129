/-
  The law ReasmPlays over its arguments as they come in. No condition.
-/
import Derived.Test.YtknlcieceghaiaaReasmPlays
namespace Go.Proofs.Ytknlcieceghaiaa
open Go.RowKit Go.ChangeShapes Go.WideShapes Go.ChangeAt Go.Joins Go.Lib
set_option linter.unusedVariables false
set_option linter.unusedSimpArgs false

theorem spot_none {W : World} {a : Addr} {v : Value} {i : Nat} (h : W.cell? (a.add i) = some v) (h0 : i = 0) : a.spot = none := by
  subst h0
  unfold World.cell? at h
  simp only [Addr.add, if_true] at h
  split at h
  · split at h
    · cases h
    · rename_i hs; simpa using hs
  · cases h
set_option maxRecDepth 100000 in
theorem bytes_in {H : Type} {enc : TypeId × Value → H} {W : World} {c : Value} {fuel : Nat} {x : DataW H × List MemPlace} (hf : DataW.trod enc Try.prog W 0 (fun _ => true) true fuel 22 [c] = some x) : ∃ A n k l, c = .slice A n k ∧ BytesV W (.slice A n k) l := by
  rcases open_ints Try.underlying22 Try.underlying5 (by kernel_rfl) hf with ⟨hcs, _⟩ | ⟨a, len, cap, zs, hcs, hb, hl, hm, hzl, _, hcell, hwf⟩
  · simp at hcs
    subst hcs
    exact ⟨none, 0, 0, [], rfl, BytesV.nil _⟩
  · simp at hcs
    subst hcs
    simp only [if_true] at hzl
    have h8 : ∀ z ∈ zs, 0 ≤ z ∧ z ≤ 255 := fun z hz => bounds_u8 (hwf z hz)
    refine ⟨some a, len, cap, (zs.take len).map (fun z => UInt8.ofNat z.toNat), rfl, some a, cap, by simp; omega, by simp; omega, hm, fun hp => ?_⟩
    simp at hp
    have hsp := spot_none (hcell 0 (by omega)) rfl
    obtain ⟨blk, off, sp⟩ := a
    simp only at hsp
    subst hsp
    refine ⟨blk, off, rfl, fun i x hx => ?_⟩
    have hi : i < ((zs.take len).map (fun z => UInt8.ofNat z.toNat)).length := (List.getElem?_eq_some_iff.1 hx).1
    simp at hi
    rw [List.getElem?_map, List.getElem?_take, if_pos (by omega), List.getElem?_eq_getElem (by omega)] at hx
    simp only [Option.map_some, Option.some.injEq] at hx
    have ci := hcell i (by omega)
    rw [show (⟨blk, off, none⟩ : Addr).add i = ⟨blk, off + i, none⟩ by unfold Addr.add; split <;> simp_all] at ci
    rw [ci, ← hx]
    have hz := h8 zs[i] (List.getElem_mem _)
    simp only [u8V, List.getD_eq_getElem?_getD, List.getElem?_eq_getElem (show i < zs.length by omega), Option.getD_some]
    congr 2
    simp
    omega
theorem Try.cellsOp : Try.prog.cellsOf 47 = 3 := by kernel_rfl
set_option maxRecDepth 100000 in
theorem open_ops {H : Type} {enc : TypeId × Value → H} {W : World} {v : Value} {d : DataW H} {p : List MemPlace} {b0 : Nat} (o : Value.okWide Try.prog W .any b0 42 v) (h : DataW.Trod enc Try.prog W 0 (fun _ => true) true 42 v d p) :
    ∃ A n c, v = .slice A n c ∧ OpsV W A n := by
  obtain ⟨a0, len, cap, rfl⟩ := okWide_slice Try.underlying42 o
  refine ⟨a0, len, cap, rfl, ?_⟩
  obtain ⟨fuel, hf⟩ := h
  rcases DataW.trod_slice Try.underlying42 hf with ⟨hcs, _⟩ | ⟨a, len', cap', elems, rest, n, _, hcs, _, hb, hl, hm, hlen, hel, _, _⟩
  · simp [Value.cells] at hcs
    intro hp
    omega
  · simp [Value.cells] at hcs
    obtain ⟨rfl, rfl, rfl⟩ := hcs
    intro hp
    rw [Try.cellsOp] at hel
    have key : ∀ i, i < len → ∃ (what at_ : Int) (v : Value) (b : List UInt8), -2147483648 ≤ at_ ∧ at_ ≤ 2147483647 ∧ W.cell? (a.add (i * 3)) = some (.int .i64 what) ∧ W.cell? ((a.add (i * 3)).add 1) = some (.int .i32 at_) ∧ W.cell? ((a.add (i * 3)).add 2) = some v ∧ BytesV W v b := by
      intro i hi
      have he := hel i hi
      rw [List.getElem?_eq_getElem (by omega)] at he
      obtain ⟨cs, hc, ht⟩ := Option.bind_eq_some_iff.1 he
      obtain ⟨_, hcl, hcc⟩ := World.cells?_some hc
      obtain ⟨y0, y1, y2, m, _, _, h0, h1, h2⟩ := Deep.trod_struct3 Try.underlying47 ht
      match cs, hcl with
      | [c0, c1, c2], _ =>
        have e0 : Try.prog.cellsOf 3 = 1 := by kernel_rfl
        have e1 : Try.prog.cellsOf 21 = 1 := by kernel_rfl
        have e2 : Try.prog.cellsOf 22 = 1 := by kernel_rfl
        simp [e0] at h0
        simp [e1] at h1
        simp [e2] at h2
        obtain ⟨x0, q0, _, w0⟩ := DataW.trod_int Try.underlying3 h0
        obtain ⟨x1, q1, _, w1⟩ := DataW.trod_int Try.underlying21 h1
        obtain ⟨A2, n2, k2, l2, q2, hb2⟩ := bytes_in h2
        simp at q0 q1
        subst q0 q1
        have b1 : -2147483648 ≤ x1 ∧ x1 ≤ 2147483647 := by
          have h8 : IntKind.i32.min = -2147483648 := rfl
          have h9 : IntKind.i32.max = 2147483647 := rfl
          simp [Lit.wf, h8, h9] at w1
          exact w1
        have g0 := hcc 0 (by omega)
        have g1 := hcc 1 (by omega)
        have g2 := hcc 2 (by omega)
        exact ⟨x0, x1, c2, l2, b1.1, b1.2, by simpa [Addr.add] using g0, by simpa using g1, by simpa using g2, by rw [q2]; exact hb2⟩
    have hsp : a.spot = none := by
      obtain ⟨x, _, _, _, _, _, g, _⟩ := key 0 hp
      rw [Nat.zero_mul] at g
      exact spot_none g rfl
    obtain ⟨blk, off, sp⟩ := a
    simp only at hsp
    subst hsp
    have e3 : ∀ i j, ((⟨blk, off, none⟩ : Addr).add (i * 3)).add j = ⟨blk, off + i * 3 + j, none⟩ := by
      intro i j
      unfold Addr.add
      split <;> split <;> simp_all
    have e4 : ∀ i, ((⟨blk, off, none⟩ : Addr).add (i * 3)) = ⟨blk, off + i * 3, none⟩ := by
      intro i
      unfold Addr.add
      split <;> simp_all
    refine ⟨blk, off, rfl, fun i hi => ?_⟩
    obtain ⟨x, y, z, b, b0, b1, g0, g1, g2, gb⟩ := key i hi
    rw [e3] at g1 g2
    rw [e4] at g0
    exact ⟨x, y, z, b, b0, b1, g0, g1, g2, gb⟩
set_option maxRecDepth 100000 in
theorem reasmPlays_typed {H : Type} (enc : TypeId × Value → H) (W : World) (base : Nat) {v0 v1 v2 : Value} {d0 d1 d2 : DataW H} {p0 p1 p2 : List MemPlace}
    (o0 : Value.okWide Try.prog W .any base 23 v0) (o1 : Value.okWide Try.prog W .any base 3 v1) (o2 : Value.okWide Try.prog W .any base 42 v2)
    (h0 : DataW.Trod enc Try.prog W 0 (fun _ => true) true 23 v0 d0 p0) (h1 : DataW.Trod enc Try.prog W 0 (fun _ => true) true 3 v1 d1 p1) (h2 : DataW.Trod enc Try.prog W 0 (fun _ => true) true 42 v2 d2 p2) :
    Calls Try.prog 4 #[v0, v1, v2] W fun e W' => e = .returned (.bool true) ∧ Below W.heap.size W W' := by
  obtain ⟨f, rfl, f0, f1⟩ := open_u32 o0 h0
  obtain ⟨n, rfl⟩ := okWide_int Try.underlying3 o1
  obtain ⟨A, m, c, rfl, hops⟩ := open_ops o2 h2
  by_cases hbad : n < 0 ∨ 16384 < n
  · exact (plays_bad W f n hbad A m c).mono fun e W' ⟨he, k⟩ => ⟨he, k.below (Nat.le_refl _) (by simp)⟩
  · obtain ⟨N, rfl⟩ : ∃ N : Nat, n = (N : Int) := ⟨n.toNat, by omega⟩
    exact (plays_walk W f ⟨f0, f1⟩ N (by omega) A m c hops).mono fun e W' ⟨he, k⟩ => ⟨he, k.below (Nat.le_refl _) (by simp)⟩
end Go.Proofs.Ytknlcieceghaiaa
