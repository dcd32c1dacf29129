/-
  The law HostSame, its arguments opened. No condition.
-/
import Derived.Test.YtgaidloicmkdaaaHostSame
import Derived.OpenShut
import Derived.Lib.SmallJoins
import Derived.Deep.Strs
namespace Go.Proofs.Ytgaidloicmkdaaa
open Go.RowKit Go.ChangeShapes Go.WideShapes Go.ChangeAt Go.Joins
set_option linter.unusedVariables false
set_option linter.unusedSimpArgs false

set_option maxRecDepth 100000 in
theorem open_bytes {H : Type} {enc : TypeId × Value → H} {W : World} {v : Value} {d : DataW H} {p : List MemPlace} {b0 : Nat} (o : Value.okWide Try.prog W .any b0 28 v) (h : DataW.Trod enc Try.prog W 0 (fun _ => true) true 28 v d p) :
    ∃ A n c l, v = .slice A n c ∧ BytesV W (.slice A n c) l := by
  obtain ⟨a0, len, cap, rfl⟩ := okWide_slice Try.underlying28 o
  obtain ⟨fuel, hf⟩ := h
  rcases open_ints Try.underlying28 Try.underlying5 (by kernel_rfl) hf with ⟨hcs, _⟩ | ⟨a, len', cap', zs, hcs, hb, hl, hm, hzl, _, hcell, hwf⟩
  · simp [Value.cells] at hcs
    obtain ⟨rfl, rfl, rfl⟩ := hcs
    exact ⟨none, 0, 0, [], rfl, BytesV.nil _⟩
  · simp [Value.cells] at hcs
    obtain ⟨rfl, rfl, rfl⟩ := hcs
    simp only [if_true] at hzl
    have h8 : ∀ z ∈ zs, 0 ≤ z ∧ z ≤ 255 := fun z hz => bounds_u8 (hwf z hz)
    refine ⟨some a, len, cap, (zs.take len).map (fun z => UInt8.ofNat z.toNat), rfl, some a, cap, by simp; omega, by simp; omega, hm, fun hp => ?_⟩
    simp at hp
    have c0 := hcell 0 (by omega)
    have hsp : a.spot = none := by
      unfold World.cell? at c0
      simp only [Addr.add, if_true] at c0
      split at c0
      · split at c0
        · cases c0
        · rename_i hs; simpa using hs
      · cases c0
    obtain ⟨blk, off, sp⟩ := a
    simp only at hsp
    subst hsp
    refine ⟨blk, off, rfl, fun i x hx => ?_⟩
    have hi : i < ((zs.take len).map (fun z => UInt8.ofNat z.toNat)).length := (List.getElem?_eq_some_iff.1 hx).1
    simp at hi
    rw [List.getElem?_map, List.getElem?_take, if_pos (by omega), List.getElem?_eq_getElem (by omega)] at hx
    simp only [Option.map_some, Option.some.injEq] at hx
    have ci := hcell i (by omega)
    have e0 : (⟨blk, off, none⟩ : Addr).add i = ⟨blk, off + i, none⟩ := by unfold Addr.add; split <;> simp_all
    rw [e0] at ci
    rw [ci, ← hx]
    have hz := h8 zs[i] (List.getElem_mem _)
    simp only [u8V, List.getD_eq_getElem?_getD, List.getElem?_eq_getElem (show i < zs.length by omega), Option.getD_some]
    congr 2
    simp
    omega
set_option maxRecDepth 100000 in
theorem open_u32 {H : Type} {enc : TypeId × Value → H} {W : World} {base : Nat} {sp : Nat → Bool} {held : Bool} {v : Value} {d : DataW H} {p : List MemPlace} {b0 : Nat} (o : Value.okWide Try.prog W .any b0 23 v) (h : DataW.Trod enc Try.prog W base sp held 23 v d p) :
    ∃ n : Int, v = .int .u32 n ∧ 0 ≤ n ∧ n ≤ 4294967295 := by
  obtain ⟨n, rfl, _, _, wn⟩ := open_int Try.underlying23 o h
  exact ⟨n, rfl, bounds_u32 wn⟩
theorem Try.cellsPr : Try.prog.cellsOf 51 = 2 := by kernel_rfl
theorem Try.cellsU8x : Try.prog.cellsOf 5 = 1 := by kernel_rfl
theorem spot_none {W : World} {a : Addr} {v : Value} {i : Nat} (h : W.cell? (a.add i) = some v) (h0 : i = 0) : a.spot = none := by
  subst h0
  unfold World.cell? at h
  simp only [Addr.add, if_true] at h
  split at h
  · split at h
    · cases h
    · rename_i hs; simpa using hs
  · cases h
set_option maxRecDepth 100000 in
theorem pair_in {H : Type} {enc : TypeId × Value → H} {W : World} {c0 c1 : Value} {fuel : Nat} {x : DataW H × List MemPlace} (hf : DataW.trod enc Try.prog W 0 (fun _ => true) true fuel 51 [c0, c1] = some x) :
    ∃ a b : Int, c0 = .int .u8 a ∧ c1 = .int .u8 b ∧ 0 ≤ a ∧ a ≤ 255 ∧ 0 ≤ b ∧ b ≤ 255 := by
  obtain ⟨xs, m, _, _, hlen, hx, hg⟩ := DataW.trod_array Try.underlying51 hf
  match xs, hx with
  | [y0, y1], _ =>
    have h0 := hg 0 (by omega)
    have h1 := hg 1 (by omega)
    simp [Try.cellsU8x] at h0 h1
    obtain ⟨a, q0, _, w0⟩ := DataW.trod_int Try.underlying5 h0
    obtain ⟨b, q1, _, w1⟩ := DataW.trod_int Try.underlying5 h1
    simp at q0 q1
    have b0 := bounds_u8 w0
    have b1 := bounds_u8 w1
    exact ⟨a, b, q0, q1, b0.1, b0.2, b1.1, b1.2⟩
set_option maxRecDepth 100000 in
theorem open_pairs {H : Type} {enc : TypeId × Value → H} {W : World} {v : Value} {d : DataW H} {p : List MemPlace} {b0 : Nat} (o : Value.okWide Try.prog W .any b0 49 v) (h : DataW.Trod enc Try.prog W 0 (fun _ => true) true 49 v d p) :
    ∃ a0 len cap, v = .slice a0 len cap ∧ len ≤ maxLen ∧ PairsE W a0 len := by
  obtain ⟨a0, len, cap, rfl⟩ := okWide_slice Try.underlying49 o
  refine ⟨a0, len, cap, rfl, ?_⟩
  obtain ⟨fuel, hf⟩ := h
  rcases DataW.trod_slice Try.underlying49 hf with ⟨hcs, _⟩ | ⟨a, len', cap', elems, rest, n, _, hcs, _, hb, hl, hm, hlen, hel, _, _⟩
  · simp [Value.cells] at hcs
    exact ⟨by omega, Or.inl hcs.2.1⟩
  · simp [Value.cells] at hcs
    obtain ⟨rfl, rfl, rfl⟩ := hcs
    refine ⟨by omega, ?_⟩
    rcases Nat.eq_zero_or_pos len with h0 | hp
    · exact Or.inl h0
    · right
      rw [Try.cellsPr] at hel
      have key : ∀ i, i < len → ∃ x y : Int, 0 ≤ x ∧ x ≤ 255 ∧ 0 ≤ y ∧ y ≤ 255 ∧ W.cell? (a.add (i * 2)) = some (.int .u8 x) ∧ W.cell? ((a.add (i * 2)).add 1) = some (.int .u8 y) := by
        intro i hi
        have he := hel i hi
        rw [List.getElem?_eq_getElem (by omega)] at he
        obtain ⟨cs, hc, ht⟩ := Option.bind_eq_some_iff.1 he
        obtain ⟨_, hcl, hcc⟩ := World.cells?_some hc
        match cs, hcl with
        | [c0, c1], _ =>
          obtain ⟨x, y, rfl, rfl, h1, h2, h3, h4⟩ := pair_in ht
          have g0 := hcc 0 (by omega)
          have g1 := hcc 1 (by omega)
          exact ⟨x, y, h1, h2, h3, h4, by simpa [Addr.add] using g0, by simpa using g1⟩
      have hsp : a.spot = none := by
        obtain ⟨x, y, _, _, _, _, g, _⟩ := key 0 hp
        rw [Nat.zero_mul] at g
        exact spot_none g rfl
      obtain ⟨blk, off, sp⟩ := a
      simp only at hsp
      subst hsp
      have e3 : ∀ i j, ((⟨blk, off, none⟩ : Addr).add (i * 2)).add j = ⟨blk, off + i * 2 + j, none⟩ := by
        intro i j
        unfold Addr.add
        split <;> split <;> simp_all
      have e4 : ∀ i, ((⟨blk, off, none⟩ : Addr).add (i * 2)) = ⟨blk, off + i * 2, none⟩ := by
        intro i
        unfold Addr.add
        split <;> simp_all
      refine ⟨blk, off, rfl, fun i hi => ?_⟩
      obtain ⟨x, y, h1, h2, h3, h4, g0, g1⟩ := key i hi
      rw [e4] at g0
      rw [e3] at g1
      exact ⟨x, y, h1, h2, h3, h4, g0, g1⟩
set_option maxRecDepth 100000 in
theorem hostSame_typed {H : Type} (enc : TypeId × Value → H) (W : World) (base : Nat) {v0 v1 v2 v3 : Value} {d0 d1 d2 d3 : DataW H} {p0 p1 p2 p3 : List MemPlace}
    (o0 : Value.okWide Try.prog W .any base 23 v0) (o1 : Value.okWide Try.prog W .any base 23 v1) (o2 : Value.okWide Try.prog W .any base 28 v2) (o3 : Value.okWide Try.prog W .any base 49 v3)
    (h0 : DataW.Trod enc Try.prog W 0 (fun _ => true) true 23 v0 d0 p0) (h1 : DataW.Trod enc Try.prog W 0 (fun _ => true) true 23 v1 d1 p1) (h2 : DataW.Trod enc Try.prog W 0 (fun _ => true) true 28 v2 d2 p2) (h3 : DataW.Trod enc Try.prog W 0 (fun _ => true) true 49 v3 d3 p3) :
    Calls Try.prog 4 #[v0, v1, v2, v3] W fun e W' => e = .returned (.bool true) ∧ Below W.heap.size W W' := by
  obtain ⟨iss, rfl, a1⟩ := open_u32 o0 h0
  obtain ⟨irs, rfl, a2⟩ := open_u32 o1 h1
  obtain ⟨A, n, c, l, rfl, hb⟩ := open_bytes o2 h2
  obtain ⟨q, len, cap, rfl, hl, hp⟩ := open_pairs o3 h3
  exact (hsame_walk W iss irs a1 a2 A n c l hb q len cap hl hp).mono fun e w' ⟨he, kk⟩ => ⟨he, kk.below (Nat.le_refl _) (by simp)⟩
end Go.Proofs.Ytgaidloicmkdaaa
