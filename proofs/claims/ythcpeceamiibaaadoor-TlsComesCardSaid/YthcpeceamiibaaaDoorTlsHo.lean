/-
  A Made as it comes in, opened. No condition.
-/
import Derived.Test.YthcpeceamiibaaaDoorTlsV
namespace Go.Proofs.YthcpeceamiibaaaDoor
open Go.RowKit Go.ChangeShapes Go.WideShapes Go.ChangeAt Go.Joins Go.Lib
set_option linter.unusedVariables false
set_option linter.unusedSimpArgs false

theorem Tryd.cc0 : Tryd.prog.cellsOf 9 = 1 := by kernel_rfl
theorem Tryd.cc1 : Tryd.prog.cellsOf 22 = 1 := by kernel_rfl
theorem Tryd.cc2 : Tryd.prog.cellsOf 23 = 1 := by kernel_rfl
theorem Tryd.cc3 : Tryd.prog.cellsOf 3 = 1 := by kernel_rfl
theorem Tryd.cc4 : Tryd.prog.cellsOf 5 = 1 := by kernel_rfl
theorem Tryd.ccm : Tryd.prog.cellsOf 25 = 4 := by kernel_rfl
theorem array4 {α : Type} {cs : Array α} (h : cs.size = 4) : ∃ c0 c1 c2 c3, cs = #[c0, c1, c2, c3] := by
  obtain ⟨l⟩ := cs
  match l, h with
  | [c0, c1, c2, c3], _ => exact ⟨c0, c1, c2, c3, rfl⟩
theorem spot_none {W : World} {a : Addr} {v : Value} {i : Nat} (h : W.cell? (a.add i) = some v) (h0 : i = 0) : a.spot = none := by
  subst h0
  unfold World.cell? at h
  simp only [Addr.add, if_true] at h
  split at h
  · split at h
    · cases h
    · rename_i hs; simpa using hs
  · cases h
set_option maxRecDepth 100000 in
theorem bytes_in {H : Type} {enc : TypeId × Value → H} {W : World} {c : Value} {fuel : Nat} {x : DataW H × List MemPlace} (hf : DataW.trod enc Tryd.prog W 0 (fun _ => true) true fuel 22 [c] = some x) : ∃ A n k l, c = .slice A n k ∧ BytesV W (.slice A n k) l := by
  rcases open_ints Tryd.underlying22 Tryd.underlying5 (by kernel_rfl) hf with ⟨hcs, _⟩ | ⟨a, len, cap, zs, hcs, hb, hl, hm, hzl, _, hcell, hwf⟩
  · simp at hcs
    subst hcs
    exact ⟨none, 0, 0, [], rfl, BytesV.nil _⟩
  · simp at hcs
    subst hcs
    simp only [if_true] at hzl
    have h8 : ∀ z ∈ zs, 0 ≤ z ∧ z ≤ 255 := fun z hz => bounds_u8 (hwf z hz)
    refine ⟨some a, len, cap, (zs.take len).map (fun z => UInt8.ofNat z.toNat), rfl, some a, cap, by simp; omega, by simp; omega, hm, fun hp => ?_⟩
    simp at hp
    have hsp := spot_none (hcell 0 (by omega)) rfl
    obtain ⟨blk, off, sp⟩ := a
    simp only at hsp
    subst hsp
    refine ⟨blk, off, rfl, fun i x hx => ?_⟩
    have hi : i < ((zs.take len).map (fun z => UInt8.ofNat z.toNat)).length := (List.getElem?_eq_some_iff.1 hx).1
    simp at hi
    rw [List.getElem?_map, List.getElem?_take, if_pos (by omega), List.getElem?_eq_getElem (by omega)] at hx
    simp only [Option.map_some, Option.some.injEq] at hx
    have ci := hcell i (by omega)
    rw [show (⟨blk, off, none⟩ : Addr).add i = ⟨blk, off + i, none⟩ by unfold Addr.add; split <;> simp_all] at ci
    rw [ci, ← hx]
    have hz := h8 zs[i] (List.getElem_mem _)
    simp only [u8V, List.getD_eq_getElem?_getD, List.getElem?_eq_getElem (show i < zs.length by omega), Option.getD_some]
    congr 2
    simp
    omega
set_option maxRecDepth 100000 in
theorem ints_in {H : Type} {enc : TypeId × Value → H} {W : World} {c : Value} {fuel : Nat} {x : DataW H × List MemPlace} (hf : DataW.trod enc Tryd.prog W 0 (fun _ => true) true fuel 23 [c] = some x) : ∃ A n k l, c = .slice A n k ∧ IntsV W A n k l := by
  rcases open_ints Tryd.underlying23 Tryd.underlying3 (by kernel_rfl) hf with ⟨hcs, _⟩ | ⟨a, len, cap, zs, hcs, hb, hl, hm, hzl, _, hcell, hwf⟩
  · simp at hcs
    subst hcs
    exact ⟨none, 0, 0, [], rfl, rfl, Nat.le_refl _, by simp [maxLen], fun h => by omega⟩
  · simp at hcs
    subst hcs
    simp only [if_true] at hzl
    refine ⟨some a, len, cap, zs.take len, rfl, by simp; omega, hl, hm, fun hp => ?_⟩
    have hsp := spot_none (hcell 0 (by omega)) rfl
    obtain ⟨blk, off, sp⟩ := a
    simp only at hsp
    subst hsp
    refine ⟨blk, off, rfl, fun i z hz => ?_⟩
    have hi := (List.getElem?_eq_some_iff.1 hz).1
    simp at hi
    rw [List.getElem?_take, if_pos (by omega)] at hz
    have ci := hcell i (by omega)
    rw [show (⟨blk, off, none⟩ : Addr).add i = ⟨blk, off + i, none⟩ by unfold Addr.add; split <;> simp_all] at ci
    rw [ci, List.getD_eq_getElem?_getD, hz]
    rfl
set_option maxRecDepth 100000 in
set_option maxHeartbeats 4000000 in
theorem open_made {H : Type} {enc : TypeId × Value → H} {W : World} {v : Value} {d : DataW H} {p : List MemPlace} {b0 : Nat} (o : Value.okWide Tryd.prog W .any b0 25 v) (h : DataW.Trod enc Tryd.prog W 0 (fun _ => true) true 25 v d p) :
    ∃ s A1 n1 c1 l1 A2 n2 c2 l2 A3 n3 c3 l3, v = .agg #[.string s, .slice A1 n1 c1, .slice A2 n2 c2, .slice A3 n3 c3] ∧ BytesV W (.slice A1 n1 c1) l1 ∧ BytesV W (.slice A2 n2 c2) l2 ∧ IntsV W A3 n3 c3 l3 := by
  obtain ⟨cs, rfl, hsz⟩ := okWide_struct Tryd.underlying25 o
  obtain ⟨c0, c1, c2, c3, rfl⟩ := array4 (hsz.trans Tryd.ccm)
  obtain ⟨fuel, hf⟩ := h
  obtain ⟨xs, m, _, _, _, hlen, hg⟩ := DataW.trod_struct Tryd.underlying25 hf
  match xs, hlen with
  | [z0, z1, z2, z3], _ =>
    have g0 := hg 0 _ rfl
    have g1 := hg 1 _ rfl
    have g2 := hg 2 _ rfl
    have g3 := hg 3 _ rfl
    simp [Value.cells, Tryd.cc0, Tryd.cc1, Tryd.cc2] at g0 g1 g2 g3
    obtain ⟨s, q0, _⟩ := DataW.trod_string Tryd.underlying9 g0
    simp at q0
    subst q0
    obtain ⟨A1, n1, k1, l1, rfl, hb1⟩ := bytes_in g1
    obtain ⟨A2, n2, k2, l2, rfl, hb2⟩ := bytes_in g2
    obtain ⟨A3, n3, k3, l3, rfl, hb3⟩ := ints_in g3
    exact ⟨s, A1, n1, k1, l1, A2, n2, k2, l2, A3, n3, k3, l3, rfl, hb1, hb2, hb3⟩
end Go.Proofs.YthcpeceamiibaaaDoor
