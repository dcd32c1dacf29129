/-
  The arguments of the sniff laws as they come in, opened. No condition.
-/
import Derived.Test.YtpoheemjdieogaaGreatDoorHttpV
namespace Go.Proofs.YtpoheemjdieogaaGreatDoor
open Go.RowKit Go.ChangeShapes Go.WideShapes Go.ChangeAt Go.Joins Go.Lib
set_option linter.unusedVariables false
set_option linter.unusedSimpArgs false

theorem Tryz.cc1 : Tryz.prog.cellsOf 22 = 1 := by kernel_rfl
theorem Tryz.cc4 : Tryz.prog.cellsOf 5 = 1 := by kernel_rfl
theorem Tryz.cc5 : Tryz.prog.cellsOf 4 = 1 := by kernel_rfl
theorem Tryz.ccp : Tryz.prog.cellsOf 29 = 2 := by kernel_rfl
theorem Tryz.ccs : Tryz.prog.cellsOf 40 = 4 := by kernel_rfl
theorem array2 {α : Type} {cs : Array α} (h : cs.size = 2) : ∃ c0 c1, cs = #[c0, c1] := by
  obtain ⟨l⟩ := cs
  match l, h with
  | [c0, c1], _ => exact ⟨c0, c1, rfl⟩
theorem array4 {α : Type} {cs : Array α} (h : cs.size = 4) : ∃ c0 c1 c2 c3, cs = #[c0, c1, c2, c3] := by
  obtain ⟨l⟩ := cs
  match l, h with
  | [c0, c1, c2, c3], _ => exact ⟨c0, c1, c2, c3, rfl⟩
theorem spot_none {W : World} {a : Addr} {v : Value} {i : Nat} (h : W.cell? (a.add i) = some v) (h0 : i = 0) : a.spot = none := by
  subst h0
  unfold World.cell? at h
  simp only [Addr.add, if_true] at h
  split at h
  · split at h
    · cases h
    · rename_i hs; simpa using hs
  · cases h
set_option maxRecDepth 100000 in
theorem bytes_in {H : Type} {enc : TypeId × Value → H} {W : World} {c : Value} {fuel : Nat} {x : DataW H × List MemPlace} (hf : DataW.trod enc Tryz.prog W 0 (fun _ => true) true fuel 22 [c] = some x) : ∃ A n k l, c = .slice A n k ∧ BytesV W (.slice A n k) l := by
  rcases open_ints Tryz.underlying22 Tryz.underlying5 (by kernel_rfl) hf with ⟨hcs, _⟩ | ⟨a, len, cap, zs, hcs, hb, hl, hm, hzl, _, hcell, hwf⟩
  · simp at hcs
    subst hcs
    exact ⟨none, 0, 0, [], rfl, BytesV.nil _⟩
  · simp at hcs
    subst hcs
    simp only [if_true] at hzl
    have h8 : ∀ z ∈ zs, 0 ≤ z ∧ z ≤ 255 := fun z hz => bounds_u8 (hwf z hz)
    refine ⟨some a, len, cap, (zs.take len).map (fun z => UInt8.ofNat z.toNat), rfl, some a, cap, by simp; omega, by simp; omega, hm, fun hp => ?_⟩
    simp at hp
    have hsp := spot_none (hcell 0 (by omega)) rfl
    obtain ⟨blk, off, sp⟩ := a
    simp only at hsp
    subst hsp
    refine ⟨blk, off, rfl, fun i x hx => ?_⟩
    have hi : i < ((zs.take len).map (fun z => UInt8.ofNat z.toNat)).length := (List.getElem?_eq_some_iff.1 hx).1
    simp at hi
    rw [List.getElem?_map, List.getElem?_take, if_pos (by omega), List.getElem?_eq_getElem (by omega)] at hx
    simp only [Option.map_some, Option.some.injEq] at hx
    have ci := hcell i (by omega)
    rw [show (⟨blk, off, none⟩ : Addr).add i = ⟨blk, off + i, none⟩ by unfold Addr.add; split <;> simp_all] at ci
    rw [ci, ← hx]
    have hz := h8 zs[i] (List.getElem_mem _)
    simp only [u8V, List.getD_eq_getElem?_getD, List.getElem?_eq_getElem (show i < zs.length by omega), Option.getD_some]
    congr 2
    simp
    omega
set_option maxRecDepth 100000 in
set_option maxHeartbeats 4000000 in
theorem open_parted {H : Type} {enc : TypeId × Value → H} {W : World} {v : Value} {d : DataW H} {p : List MemPlace} {b0 : Nat} (o : Value.okWide Tryz.prog W .any b0 29 v) (h : DataW.Trod enc Tryz.prog W 0 (fun _ => true) true 29 v d p) :
    ∃ A1 n1 c1 l1 cl, v = .agg #[.slice A1 n1 c1, .bool cl] ∧ BytesV W (.slice A1 n1 c1) l1 := by
  obtain ⟨cs, rfl, hsz⟩ := okWide_struct Tryz.underlying29 o
  obtain ⟨c0, c1, rfl⟩ := array2 (hsz.trans Tryz.ccp)
  obtain ⟨fuel, hf⟩ := h
  obtain ⟨xs, m, _, _, _, hlen, hg⟩ := DataW.trod_struct Tryz.underlying29 hf
  match xs, hlen with
  | [z0, z1], _ =>
    have g0 := hg 0 _ rfl
    have g1 := hg 1 _ rfl
    simp [Value.cells, Tryz.cc5, Tryz.cc1] at g0 g1
    obtain ⟨A1, n1, k1, l1, rfl, hb1⟩ := bytes_in g0
    obtain ⟨cl, q1, _⟩ := DataW.trod_bool Tryz.underlying4 g1
    simp at q1
    subst q1
    exact ⟨A1, n1, k1, l1, cl, rfl, hb1⟩
set_option maxRecDepth 100000 in
set_option maxHeartbeats 4000000 in
theorem open_said {H : Type} {enc : TypeId × Value → H} {W : World} {v : Value} {d : DataW H} {p : List MemPlace} {b0 : Nat} (o : Value.okWide Tryz.prog W .any b0 40 v) (h : DataW.Trod enc Tryz.prog W 0 (fun _ => true) true 40 v d p) :
    ∃ up A1 n1 c1 l1 A2 n2 c2 l2 pt, v = .agg #[.bool up, .slice A1 n1 c1, .slice A2 n2 c2, .int .u8 ((pt : Nat) : Int)] ∧ pt < 256 ∧ BytesV W (.slice A1 n1 c1) l1 ∧ BytesV W (.slice A2 n2 c2) l2 := by
  obtain ⟨cs, rfl, hsz⟩ := okWide_struct Tryz.underlying40 o
  obtain ⟨c0, c1, c2, c3, rfl⟩ := array4 (hsz.trans Tryz.ccs)
  obtain ⟨fuel, hf⟩ := h
  obtain ⟨xs, m, _, _, _, hlen, hg⟩ := DataW.trod_struct Tryz.underlying40 hf
  match xs, hlen with
  | [z0, z1, z2, z3], _ =>
    have g0 := hg 0 _ rfl
    have g1 := hg 1 _ rfl
    have g2 := hg 2 _ rfl
    have g3 := hg 3 _ rfl
    simp [Value.cells, Tryz.cc5, Tryz.cc1, Tryz.cc4] at g0 g1 g2 g3
    obtain ⟨up, q0, _⟩ := DataW.trod_bool Tryz.underlying4 g0
    simp at q0
    subst q0
    obtain ⟨A1, n1, k1, l1, rfl, hb1⟩ := bytes_in g1
    obtain ⟨A2, n2, k2, l2, rfl, hb2⟩ := bytes_in g2
    obtain ⟨n, q3, _, hw⟩ := DataW.trod_int Tryz.underlying5 g3
    simp at q3
    subst q3
    have hb := bounds_u8 hw
    refine ⟨up, A1, n1, k1, l1, A2, n2, k2, l2, n.toNat, ?_, by omega, hb1, hb2⟩
    rw [Int.toNat_of_nonneg hb.1]
set_option maxRecDepth 100000 in
theorem open_u16 {H : Type} {enc : TypeId × Value → H} {W : World} {v : Value} {d : DataW H} {p : List MemPlace} {b0 : Nat} (o : Value.okWide Tryz.prog W .any b0 27 v) (h : DataW.Trod enc Tryz.prog W 0 (fun _ => true) true 27 v d p) :
    ∃ n : Nat, v = .int .u16 n ∧ n < 65536 := by
  obtain ⟨z, rfl⟩ := okWide_int Tryz.underlying27 o
  obtain ⟨fuel, hf⟩ := h
  obtain ⟨n, q0, _, hw⟩ := DataW.trod_int Tryz.underlying27 hf
  simp [Value.cells] at q0
  subst q0
  have hb := bounds_u16 hw
  exact ⟨z.toNat, by rw [Int.toNat_of_nonneg hb.1], by omega⟩
end Go.Proofs.YtpoheemjdieogaaGreatDoor
