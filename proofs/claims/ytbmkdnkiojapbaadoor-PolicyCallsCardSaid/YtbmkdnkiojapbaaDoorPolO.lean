/-
  The laws' arguments of package policy opened: a config, rules, a string (printed by tools/gen_polo.py). No condition.
-/
import Derived.Test.YtbmkdnkiojapbaaDoorPolicyWhere
import Derived.ProofKit
import Derived.OpenShut
import Derived.Lib.SmallJoins
import Derived.Deep.Strs
namespace Go.Proofs.YtbmkdnkiojapbaaDoor
open Go.RowKit Go.ChangeShapes Go.WideShapes Go.ChangeAt Go.Joins Go.Lib
set_option linter.unusedVariables false
set_option linter.unusedSimpArgs false

theorem Tryd.cc0 : Tryd.prog.cellsOf 22 = 1 := by kernel_rfl
theorem Tryd.cc1 : Tryd.prog.cellsOf 23 = 1 := by kernel_rfl
theorem Tryd.cc2 : Tryd.prog.cellsOf 24 = 1 := by kernel_rfl
theorem Tryd.cc3 : Tryd.prog.cellsOf 3 = 1 := by kernel_rfl
theorem Tryd.cc4 : Tryd.prog.cellsOf 25 = 1 := by kernel_rfl
theorem Tryd.cc5 : Tryd.prog.cellsOf 4 = 1 := by kernel_rfl
theorem Tryd.cc6 : Tryd.prog.cellsOf 26 = 1 := by kernel_rfl
theorem Tryd.cc7 : Tryd.prog.cellsOf 27 = 1 := by kernel_rfl
theorem Tryd.cc8 : Tryd.prog.cellsOf 9 = 1 := by kernel_rfl
theorem Tryd.ccf : Tryd.prog.cellsOf 29 = 19 := by kernel_rfl
theorem Tryd.ccr : Tryd.prog.cellsOf 35 = 4 := by kernel_rfl
theorem array19 {α : Type} {cs : Array α} (h : cs.size = 19) : ∃ c0 c1 c2 c3 c4 c5 c6 c7 c8 c9 c10 c11 c12 c13 c14 c15 c16 c17 c18, cs = #[c0, c1, c2, c3, c4, c5, c6, c7, c8, c9, c10, c11, c12, c13, c14, c15, c16, c17, c18] := by
  obtain ⟨l⟩ := cs
  match l, h with
  | [c0, c1, c2, c3, c4, c5, c6, c7, c8, c9, c10, c11, c12, c13, c14, c15, c16, c17, c18], _ => exact ⟨c0, c1, c2, c3, c4, c5, c6, c7, c8, c9, c10, c11, c12, c13, c14, c15, c16, c17, c18, rfl⟩

set_option maxRecDepth 100000 in
set_option maxHeartbeats 4000000 in
theorem open_config {H : Type} {enc : TypeId × Value → H} {W : World} {base : Nat} {sp : Nat → Bool} {held : Bool} {v : Value} {d : DataW H} {p : List MemPlace} {b0 : Nat} (o : Value.okWide Tryd.prog W .any b0 29 v) (h : DataW.Trod enc Tryd.prog W base sp held 29 v d p) :
    ∃ c r, v = cfgV c r := by
  obtain ⟨cs, rfl, hsz⟩ := okWide_struct Tryd.underlying29 o
  obtain ⟨c0, c1, c2, c3, c4, c5, c6, c7, c8, c9, c10, c11, c12, c13, c14, c15, c16, c17, c18, rfl⟩ := array19 (hsz.trans Tryd.ccf)
  obtain ⟨fuel, hf⟩ := h
  obtain ⟨xs, m, _, _, _, hlen, hg⟩ := DataW.trod_struct Tryd.underlying29 hf
  match xs, hlen with
  | [z0, z1, z2, z3, z4, z5, z6, z7, z8, z9, z10, z11, z12, z13, z14, z15, z16, z17, z18], _ =>
    have g0 := hg 0 _ rfl
    have g1 := hg 1 _ rfl
    have g2 := hg 2 _ rfl
    have g3 := hg 3 _ rfl
    have g4 := hg 4 _ rfl
    have g5 := hg 5 _ rfl
    have g6 := hg 6 _ rfl
    have g7 := hg 7 _ rfl
    have g8 := hg 8 _ rfl
    have g9 := hg 9 _ rfl
    have g10 := hg 10 _ rfl
    have g11 := hg 11 _ rfl
    have g12 := hg 12 _ rfl
    have g13 := hg 13 _ rfl
    have g14 := hg 14 _ rfl
    have g15 := hg 15 _ rfl
    have g16 := hg 16 _ rfl
    have g17 := hg 17 _ rfl
    have g18 := hg 18 _ rfl
    simp [Value.cells, Tryd.cc0, Tryd.cc1, Tryd.cc2, Tryd.cc3, Tryd.cc4, Tryd.cc5, Tryd.cc6, Tryd.cc7, Tryd.cc8] at g0 g1 g2 g3 g4 g5 g6 g7 g8 g9 g10 g11 g12 g13 g14 g15 g16 g17 g18
    obtain ⟨n0, e0, _, _⟩ := DataW.trod_int Tryd.underlying22 g0
    simp at e0
    subst e0
    obtain ⟨n1, e1, _, _⟩ := DataW.trod_int Tryd.underlying22 g1
    simp at e1
    subst e1
    obtain ⟨n2, e2, _, _⟩ := DataW.trod_int Tryd.underlying22 g2
    simp at e2
    subst e2
    obtain ⟨n3, e3, _, _⟩ := DataW.trod_int Tryd.underlying23 g3
    simp at e3
    subst e3
    obtain ⟨n4, e4, _, _⟩ := DataW.trod_int Tryd.underlying23 g4
    simp at e4
    subst e4
    obtain ⟨n5, e5, _, _⟩ := DataW.trod_int Tryd.underlying24 g5
    simp at e5
    subst e5
    obtain ⟨n6, e6, _, _⟩ := DataW.trod_int Tryd.underlying3 g6
    simp at e6
    subst e6
    have e7 : ∃ a n c, c7 = .slice a n c := by
      rcases DataW.trod_slice Tryd.underlying25 g7 with ⟨hcs, _⟩ | ⟨a, len', cap', elems, rest, n, _, hcs, _⟩
      · exact ⟨none, 0, 0, by simpa using hcs⟩
      · exact ⟨some a, len', cap', by simpa using hcs⟩
    obtain ⟨a7, m7, k7, rfl⟩ := e7
    obtain ⟨n8, e8, _, _⟩ := DataW.trod_int Tryd.underlying3 g8
    simp at e8
    subst e8
    obtain ⟨n9, e9, _, _⟩ := DataW.trod_int Tryd.underlying23 g9
    simp at e9
    subst e9
    obtain ⟨n10, e10, _, _⟩ := DataW.trod_int Tryd.underlying3 g10
    simp at e10
    subst e10
    obtain ⟨n11, e11, _⟩ := DataW.trod_bool Tryd.underlying4 g11
    simp at e11
    subst e11
    obtain ⟨n12, e12, _, _⟩ := DataW.trod_int Tryd.underlying24 g12
    simp at e12
    subst e12
    have e13 : ∃ a n c, c13 = .slice a n c := by
      rcases DataW.trod_slice Tryd.underlying26 g13 with ⟨hcs, _⟩ | ⟨a, len', cap', elems, rest, n, _, hcs, _⟩
      · exact ⟨none, 0, 0, by simpa using hcs⟩
      · exact ⟨some a, len', cap', by simpa using hcs⟩
    obtain ⟨a13, m13, k13, rfl⟩ := e13
    have e14 : ∃ a n c, c14 = .slice a n c := by
      rcases DataW.trod_slice Tryd.underlying27 g14 with ⟨hcs, _⟩ | ⟨a, len', cap', elems, rest, n, _, hcs, _⟩
      · exact ⟨none, 0, 0, by simpa using hcs⟩
      · exact ⟨some a, len', cap', by simpa using hcs⟩
    obtain ⟨a14, m14, k14, rfl⟩ := e14
    obtain ⟨n15, e15, _, _⟩ := DataW.trod_int Tryd.underlying24 g15
    simp at e15
    subst e15
    obtain ⟨n16, e16, _, _⟩ := DataW.trod_int Tryd.underlying3 g16
    simp at e16
    subst e16
    obtain ⟨n17, e17, _, _⟩ := DataW.trod_int Tryd.underlying24 g17
    simp at e17
    subst e17
    obtain ⟨n18, e18, _, _⟩ := DataW.trod_int Tryd.underlying24 g18
    simp at e18
    subst e18
    exact ⟨⟨n0, n1, n2⟩, ⟨n3, n4, n5, n6, a7, m7, k7, n8, n9, n10, n11, n12, a13, m13, k13, a14, m14, k14, n15, n16, n17, n18⟩, rfl⟩
theorem Tryd.cellsR : Tryd.prog.cellsOf 35 = 4 := by kernel_rfl
set_option maxRecDepth 100000 in
theorem open_rules {H : Type} {enc : TypeId × Value → H} {W : World} {v : Value} {d : DataW H} {p : List MemPlace} {b0 : Nat} (o : Value.okWide Tryd.prog W .any b0 26 v) (h : DataW.Trod enc Tryd.prog W 0 (fun _ => true) true 26 v d p) :
    ∃ A n k l, v = .slice A n k ∧ l.length = n ∧ RulesAt W A l ∧ n ≤ k ∧ n ≤ maxLen := by
  obtain ⟨a0, len, cap, rfl⟩ := okWide_slice Tryd.underlying26 o
  obtain ⟨fuel, hf⟩ := h
  rcases DataW.trod_slice Tryd.underlying26 hf with ⟨hcs, _⟩ | ⟨a, len', cap', elems, rest, n, _, hcs, _, hb, hl, hm, hlen, hel, _, _⟩
  · simp [Value.cells] at hcs
    obtain ⟨rfl, rfl, rfl⟩ := hcs
    exact ⟨none, 0, 0, [], rfl, rfl, .inl rfl, Nat.le_refl _, by omega⟩
  · simp [Value.cells] at hcs
    obtain ⟨rfl, rfl, rfl⟩ := hcs
    rw [Tryd.cellsR] at hel
    have key : ∀ i, i < len → ∃ x : PR, W.cell? (a.add (i * 4)) = some (.string x.name) ∧ W.cell? ((a.add (i * 4)).add 1) = some (.bool x.deny) ∧ W.cell? ((a.add (i * 4)).add 2) = some (.int .u32 x.addr) ∧ W.cell? ((a.add (i * 4)).add 3) = some (.int .u16 x.port) := by
      intro i hi
      have he := hel i hi
      rw [List.getElem?_eq_getElem (by omega)] at he
      obtain ⟨cs, hc, ht⟩ := Option.bind_eq_some_iff.1 he
      obtain ⟨_, hcl, hcc⟩ := World.cells?_some hc
      obtain ⟨y0, y1, y2, y3, m, _, _, h0, h1, h2, h3⟩ := trod_struct4 Tryd.underlying35 ht
      match cs, hcl with
      | [c0, c1, c2, c3], _ =>
        have e0 : Tryd.prog.cellsOf 9 = 1 := by kernel_rfl
        have e1 : Tryd.prog.cellsOf 4 = 1 := by kernel_rfl
        have e2 : Tryd.prog.cellsOf 22 = 1 := by kernel_rfl
        have e3 : Tryd.prog.cellsOf 23 = 1 := by kernel_rfl
        simp [e0, e1, e2, e3] at h0 h1 h2 h3
        obtain ⟨x0, q0, _⟩ := DataW.trod_string Tryd.underlying9 h0
        obtain ⟨x1, q1, _⟩ := DataW.trod_bool Tryd.underlying4 h1
        obtain ⟨x2, q2, _, w2⟩ := DataW.trod_int Tryd.underlying22 h2
        obtain ⟨x3, q3, _, w3⟩ := DataW.trod_int Tryd.underlying23 h3
        simp at q0 q1 q2 q3
        subst q0 q1 q2 q3
        have g0 := hcc 0 (by omega)
        have g1 := hcc 1 (by omega)
        have g2 := hcc 2 (by omega)
        have g3 := hcc 3 (by omega)
        exact ⟨⟨_, x1, x2, x3⟩, by simpa [Addr.add] using g0, by simpa using g1, by simpa using g2, by simpa using g3⟩
    rcases Nat.eq_zero_or_pos len with h0 | hp
    · subst h0
      exact ⟨some a, 0, cap, [], rfl, rfl, .inl rfl, by omega, by omega⟩
    · have hsp : a.spot = none := by
        obtain ⟨x, g, _⟩ := key 0 hp
        simp only [Nat.zero_mul, Addr.add, if_true] at g
        unfold World.cell? at g
        split at g
        · split at g
          · cases g
          · rename_i hs; simpa using hs
        · cases g
      obtain ⟨blk, off, sp⟩ := a
      simp only at hsp
      subst hsp
      have e3 : ∀ i j, ((⟨blk, off, none⟩ : Addr).add (i * 4)).add j = ⟨blk, off + i * 4 + j, none⟩ := by
        intro i j
        unfold Addr.add
        split <;> split <;> simp_all
      have e4 : ∀ i, ((⟨blk, off, none⟩ : Addr).add (i * 4)) = ⟨blk, off + i * 4, none⟩ := by
        intro i
        unfold Addr.add
        split <;> simp_all
      refine ⟨_, len, cap, (List.finRange len).map fun i => (key i.val i.isLt).choose, rfl, by simp, .inr ⟨blk, off, rfl, fun i x hx => ?_⟩, by omega, by omega⟩
      have hi : i < len := by have := (List.getElem?_eq_some_iff.1 hx).1; simpa using this
      have hx2 : (key i hi).choose = x := by
        rw [List.getElem?_map] at hx
        simp [hi] at hx
        exact hx
      have hk := (key i hi).choose_spec
      rw [hx2] at hk
      obtain ⟨k0, k1, k2, k3⟩ := hk
      rw [e3] at k1 k2 k3
      rw [e4] at k0
      exact ⟨k0, k1, k2, k3⟩
end Go.Proofs.YtbmkdnkiojapbaaDoor
