/-
  A segment as it comes in, opened: its numbers, its options, its data. No condition.
-/
import Derived.Test.YtakgohocimlagaaGreatSegs
import Derived.OpenShut
import Derived.Lib.SmallJoins
import Derived.Deep.Strs
namespace Go.Proofs.YtakgohocimlagaaGreat
open Go.RowKit Go.ChangeShapes Go.WideShapes Go.ChangeAt Go.Joins Go.Lib
set_option linter.unusedVariables false
set_option linter.unusedSimpArgs false

theorem Tryz.sc1 : Tryz.prog.cellsOf 37 = 1 := by kernel_rfl
theorem Tryz.sc4 : Tryz.prog.cellsOf 5 = 1 := by kernel_rfl
theorem Tryz.sc16 : Tryz.prog.cellsOf 24 = 1 := by kernel_rfl
theorem Tryz.sc32 : Tryz.prog.cellsOf 22 = 1 := by kernel_rfl
theorem Tryz.sco : Tryz.prog.cellsOf 60 = 2 := by kernel_rfl
theorem Tryz.scos : Tryz.prog.cellsOf 36 = 1 := by kernel_rfl
theorem Tryz.scs : Tryz.prog.cellsOf 39 = 9 := by kernel_rfl
theorem array9 {α : Type} {cs : Array α} (h : cs.size = 9) : ∃ c0 c1 c2 c3 c4 c5 c6 c7 c8, cs = #[c0, c1, c2, c3, c4, c5, c6, c7, c8] := by
  obtain ⟨l⟩ := cs
  match l, h with
  | [c0, c1, c2, c3, c4, c5, c6, c7, c8], _ => exact ⟨c0, c1, c2, c3, c4, c5, c6, c7, c8, rfl⟩
theorem spot_none {W : World} {a : Addr} {v : Value} {i : Nat} (h : W.cell? (a.add i) = some v) (h0 : i = 0) : a.spot = none := by
  subst h0
  unfold World.cell? at h
  simp only [Addr.add, if_true] at h
  split at h
  · split at h
    · cases h
    · rename_i hs; simpa using hs
  · cases h
set_option maxRecDepth 100000 in
theorem bytes_in {H : Type} {enc : TypeId × Value → H} {W : World} {c : Value} {fuel : Nat} {x : DataW H × List MemPlace} (hf : DataW.trod enc Tryz.prog W 0 (fun _ => true) true fuel 37 [c] = some x) : ∃ A n k l, c = .slice A n k ∧ BytesV W (.slice A n k) l := by
  rcases open_ints Tryz.underlying37 Tryz.underlying5 (by kernel_rfl) hf with ⟨hcs, _⟩ | ⟨a, len, cap, zs, hcs, hb, hl, hm, hzl, _, hcell, hwf⟩
  · simp at hcs
    subst hcs
    exact ⟨none, 0, 0, [], rfl, BytesV.nil _⟩
  · simp at hcs
    subst hcs
    simp only [if_true] at hzl
    have h8 : ∀ z ∈ zs, 0 ≤ z ∧ z ≤ 255 := fun z hz => bounds_u8 (hwf z hz)
    refine ⟨some a, len, cap, (zs.take len).map (fun z => UInt8.ofNat z.toNat), rfl, some a, cap, by simp; omega, by simp; omega, hm, fun hp => ?_⟩
    simp at hp
    have hsp := spot_none (hcell 0 (by omega)) rfl
    obtain ⟨blk, off, sp⟩ := a
    simp only at hsp
    subst hsp
    refine ⟨blk, off, rfl, fun i x hx => ?_⟩
    have hi : i < ((zs.take len).map (fun z => UInt8.ofNat z.toNat)).length := (List.getElem?_eq_some_iff.1 hx).1
    simp at hi
    rw [List.getElem?_map, List.getElem?_take, if_pos (by omega), List.getElem?_eq_getElem (by omega)] at hx
    simp only [Option.map_some, Option.some.injEq] at hx
    have ci := hcell i (by omega)
    rw [show (⟨blk, off, none⟩ : Addr).add i = ⟨blk, off + i, none⟩ by unfold Addr.add; split <;> simp_all] at ci
    rw [ci, ← hx]
    have hz := h8 zs[i] (List.getElem_mem _)
    simp only [u8V, List.getD_eq_getElem?_getD, List.getElem?_eq_getElem (show i < zs.length by omega), Option.getD_some]
    congr 2
    simp
    omega
set_option maxRecDepth 100000 in
set_option maxHeartbeats 1000000 in
theorem opts_in {H : Type} {enc : TypeId × Value → H} {W : World} {c : Value} {fuel : Nat} {x : DataW H × List MemPlace} (hf : DataW.trod enc Tryz.prog W 0 (fun _ => true) true fuel 36 [c] = some x) : ∃ A n k l, c = .slice A n k ∧ OptsV W (.slice A n k) l := by
  rcases DataW.trod_slice Tryz.underlying36 hf with ⟨hcs, _⟩ | ⟨a, len, cap, elems, rest, n, _, hcs, _, hb, hl, hm, hlen, hel, _, _⟩
  · simp at hcs
    subst hcs
    exact ⟨none, 0, 0, [], rfl, OptsV.nil _⟩
  · simp at hcs
    subst hcs
    rw [Tryz.sco] at hel
    have key : ∀ i, i < len → ∃ (x : O) (B : Option Addr) (m : Nat), W.cell? (a.add (i * 2)) = some (u8V x.1) ∧ W.cell? (a.add (i * 2 + 1)) = some (.slice B x.2.length m) ∧ BytesV W (.slice B x.2.length m) x.2 := by
      intro i hi
      have he := hel i hi
      rw [List.getElem?_eq_getElem (by omega)] at he
      obtain ⟨cs, hc, ht⟩ := Option.bind_eq_some_iff.1 he
      obtain ⟨_, hcl, hcc⟩ := World.cells?_some hc
      match cs, hcl with
      | [c0, c1], _ =>
        obtain ⟨xs, m, _, _, _, hlen2, hg⟩ := DataW.trod_struct Tryz.underlying60 ht
        match xs, hlen2 with
        | [z0, z1], _ =>
          have g0 := hg 0 _ rfl
          have g1 := hg 1 _ rfl
          simp [Tryz.sc4, Tryz.sc1] at g0 g1
          obtain ⟨kd, q0, _, hw⟩ := DataW.trod_int Tryz.underlying5 g0
          simp at q0
          subst q0
          have hb8 := bounds_u8 hw
          obtain ⟨B, n, k, l, rfl, hbb⟩ := bytes_in g1
          obtain ⟨rfl, _, _⟩ := hbb.form
          have d0 := hcc 0 (by omega)
          have d1 := hcc 1 (by omega)
          refine ⟨(UInt8.ofNat kd.toNat, l), B, k, ?_, ?_, hbb⟩
          · have : u8V (UInt8.ofNat kd.toNat) = .int .u8 kd := by
              unfold u8V
              congr 1
              simp
              omega
            rw [this]
            simpa [Addr.add] using d0
          · have e : (a.add (i * 2)).add 1 = a.add (i * 2 + 1) := by
              obtain ⟨blk, off, sp⟩ := a
              unfold Addr.add
              by_cases h0 : i * 2 = 0
              · simp [h0]
              · simp [h0, Nat.add_assoc]
            rw [← e]
            simpa using d1
    have hch : ∃ f : Nat → O, ∀ i, i < len → ∃ (B : Option Addr) (m : Nat), W.cell? (a.add (i * 2)) = some (u8V (f i).1) ∧ W.cell? (a.add (i * 2 + 1)) = some (.slice B (f i).2.length m) ∧ BytesV W (.slice B (f i).2.length m) (f i).2 := by
      refine ⟨fun i => if hi : i < len then (key i hi).choose else (0, []), fun i hi => ?_⟩
      simp only [hi, dif_pos]
      exact (key i hi).choose_spec
    obtain ⟨f, hf2⟩ := hch
    refine ⟨some a, len, cap, (List.range len).map f, rfl, some a, cap, by simp, by simpa using hl, hm, fun hp => ?_⟩
    simp at hp
    have hsp : a.spot = none := by
      obtain ⟨B, m, h1, _⟩ := hf2 0 hp
      exact spot_none (i := 0) (by rwa [Nat.zero_mul] at h1) rfl
    obtain ⟨blk, off, sp⟩ := a
    simp only at hsp
    subst hsp
    refine ⟨blk, off, rfl, fun i x hx => ?_⟩
    have hi : i < len := by have := (List.getElem?_eq_some_iff.1 hx).1; simpa using this
    rw [List.getElem?_map, List.getElem?_range hi] at hx
    simp only [Option.map_some, Option.some.injEq] at hx
    subst hx
    obtain ⟨B, m, h1, h2, h3⟩ := hf2 i hi
    refine ⟨B, m, ?_, ?_, h3⟩
    · rw [show (⟨blk, off, none⟩ : Addr).add (i * 2) = ⟨blk, off + i * 2, none⟩ by unfold Addr.add; split <;> simp_all] at h1
      exact h1
    · rw [show (⟨blk, off, none⟩ : Addr).add (i * 2 + 1) = ⟨blk, off + i * 2 + 1, none⟩ by unfold Addr.add; simp [Nat.add_assoc]] at h2
      exact h2
set_option maxRecDepth 100000 in
set_option maxHeartbeats 4000000 in
theorem seg_in {H : Type} {enc : TypeId × Value → H} {W : World} {c0 c1 c2 c3 c4 c5 c6 c7 c8 : Value} {fuel : Nat} {x : DataW H × List MemPlace} (hf : DataW.trod enc Tryz.prog W 0 (fun _ => true) true fuel 39 [c0, c1, c2, c3, c4, c5, c6, c7, c8] = some x) :
    ∃ (sp dp sq ak fl wn ug : Int) (A1 : Option Addr) (n1 k1 : Nat) (l1 : List O) (A2 : Option Addr) (n2 k2 : Nat) (l2 : List UInt8), [c0, c1, c2, c3, c4, c5, c6, c7, c8] = [.int .u16 sp, .int .u16 dp, .int .u32 sq, .int .u32 ak, .int .u8 fl, .int .u16 wn, .int .u16 ug, .slice A1 n1 k1, .slice A2 n2 k2] ∧ (0 ≤ sp ∧ sp ≤ 65535 ∧ 0 ≤ dp ∧ dp ≤ 65535 ∧ 0 ≤ sq ∧ sq ≤ 4294967295 ∧ 0 ≤ ak ∧ ak ≤ 4294967295 ∧ 0 ≤ fl ∧ fl ≤ 255 ∧ 0 ≤ wn ∧ wn ≤ 65535 ∧ 0 ≤ ug ∧ ug ≤ 65535) ∧ OptsV W (.slice A1 n1 k1) l1 ∧ BytesV W (.slice A2 n2 k2) l2 := by
  obtain ⟨xs, m, _, _, _, hlen, hg⟩ := DataW.trod_struct Tryz.underlying39 hf
  match xs, hlen with
  | [z0, z1, z2, z3, z4, z5, z6, z7, z8], _ =>
    have g0 := hg 0 _ rfl
    have g1 := hg 1 _ rfl
    have g2 := hg 2 _ rfl
    have g3 := hg 3 _ rfl
    have g4 := hg 4 _ rfl
    have g5 := hg 5 _ rfl
    have g6 := hg 6 _ rfl
    have g7 := hg 7 _ rfl
    have g8 := hg 8 _ rfl
    simp [Tryz.sc1, Tryz.sc4, Tryz.sc16, Tryz.sc32, Tryz.scos] at g0 g1 g2 g3 g4 g5 g6 g7 g8
    obtain ⟨sp, q0, _, w0⟩ := DataW.trod_int Tryz.underlying24 g0
    simp at q0
    subst q0
    have b0 := bounds_u16 w0
    obtain ⟨dp, q1, _, w1⟩ := DataW.trod_int Tryz.underlying24 g1
    simp at q1
    subst q1
    have b1 := bounds_u16 w1
    obtain ⟨sq, q2, _, w2⟩ := DataW.trod_int Tryz.underlying22 g2
    simp at q2
    subst q2
    have b2 := bounds_u32 w2
    obtain ⟨ak, q3, _, w3⟩ := DataW.trod_int Tryz.underlying22 g3
    simp at q3
    subst q3
    have b3 := bounds_u32 w3
    obtain ⟨fl, q4, _, w4⟩ := DataW.trod_int Tryz.underlying5 g4
    simp at q4
    subst q4
    have b4 := bounds_u8 w4
    obtain ⟨wn, q5, _, w5⟩ := DataW.trod_int Tryz.underlying24 g5
    simp at q5
    subst q5
    have b5 := bounds_u16 w5
    obtain ⟨ug, q6, _, w6⟩ := DataW.trod_int Tryz.underlying24 g6
    simp at q6
    subst q6
    have b6 := bounds_u16 w6
    obtain ⟨A1, n1, k1, l1, rfl, hb1⟩ := opts_in g7
    obtain ⟨A2, n2, k2, l2, rfl, hb2⟩ := bytes_in g8
    exact ⟨sp, dp, sq, ak, fl, wn, ug, A1, n1, k1, l1, A2, n2, k2, l2, rfl, by omega, hb1, hb2⟩
set_option maxRecDepth 100000 in
set_option maxHeartbeats 4000000 in
theorem open_seg {H : Type} {enc : TypeId × Value → H} {W : World} {v : Value} {d : DataW H} {p : List MemPlace} {b0 : Nat} (o : Value.okWide Tryz.prog W .any b0 39 v) (h : DataW.Trod enc Tryz.prog W 0 (fun _ => true) true 39 v d p) :
    ∃ (sp dp sq ak fl wn ug : Int) (A1 : Option Addr) (n1 k1 : Nat) (l1 : List O) (A2 : Option Addr) (n2 k2 : Nat) (l2 : List UInt8), v = .agg #[.int .u16 sp, .int .u16 dp, .int .u32 sq, .int .u32 ak, .int .u8 fl, .int .u16 wn, .int .u16 ug, .slice A1 n1 k1, .slice A2 n2 k2] ∧ (0 ≤ sp ∧ sp ≤ 65535 ∧ 0 ≤ dp ∧ dp ≤ 65535 ∧ 0 ≤ sq ∧ sq ≤ 4294967295 ∧ 0 ≤ ak ∧ ak ≤ 4294967295 ∧ 0 ≤ fl ∧ fl ≤ 255 ∧ 0 ≤ wn ∧ wn ≤ 65535 ∧ 0 ≤ ug ∧ ug ≤ 65535) ∧ OptsV W (.slice A1 n1 k1) l1 ∧ BytesV W (.slice A2 n2 k2) l2 := by
  obtain ⟨cs, rfl, hsz⟩ := okWide_struct Tryz.underlying39 o
  obtain ⟨c0, c1, c2, c3, c4, c5, c6, c7, c8, rfl⟩ := array9 (hsz.trans Tryz.scs)
  obtain ⟨fuel, hf⟩ := h
  obtain ⟨sp, dp, sq, ak, fl, wn, ug, A1, n1, k1, l1, A2, n2, k2, l2, he, hb, h1, h2⟩ := seg_in (fuel := fuel) (by simpa [Value.cells] using hf)
  simp only [List.cons.injEq, and_true] at he
  obtain ⟨rfl, rfl, rfl, rfl, rfl, rfl, rfl, rfl, rfl⟩ := he
  exact ⟨sp, dp, sq, ak, fl, wn, ug, A1, n1, k1, l1, A2, n2, k2, l2, rfl, hb, h1, h2⟩
end Go.Proofs.YtakgohocimlagaaGreat
