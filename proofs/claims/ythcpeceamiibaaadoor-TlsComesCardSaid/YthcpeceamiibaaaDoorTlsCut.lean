/-
  The walk of culvertlaw21.Made's cut. Condition: the slices' lengths are within their capacities.
-/
import Derived.Test.YthcpeceamiibaaaDoorTlsV
import Derived.Test.YthcpeceamiibaaaDoorTlsW
namespace Go.Proofs.YthcpeceamiibaaaDoor
open Go.RowKit Go.Lib
set_option linter.unusedVariables false
set_option linter.unusedSimpArgs false

theorem wp_rel {P : Program} {c : Code} {Q : Exit → Act → World → Prop} {a : Act} {w : World} (R : Act → Act → World → Prop) (h : c.wp P (fun e a' w' => e = .normal ∧ R a a' w') a w) (hq : ∀ a' w', R a a' w' → Q .normal a' w') : c.wp P Q a w :=
  Go.wp_mono h fun e a' w' ⟨he, hr⟩ => by subst he; exact hq a' w' hr
set_option maxRecDepth 100000 in
set_option maxHeartbeats 8000000 in
theorem cut_any (w : World) (s : ByteArray) (A1 A2 A3 : Option Addr) (n1 n2 n3 c1 c2 c3 m0 m1 m2 m3 : Nat) (h0 : min s.size 400 = m0) (h1 : min n1 1200 = m1) (h2 : min n2 1200 = m2) (h3 : min n3 20 = m3) (hc1 : n1 ≤ c1) (hc2 : n2 ≤ c2) (hc3 : n3 ≤ c3) :
    Calls Tryd.prog 8 #[.agg #[.string s, .slice A1 n1 c1, .slice A2 n2 c2, .slice A3 n3 c3]] w fun e w' =>
      e = .returned (.agg #[.string (s.extract 0 m0), .slice A1 m1 c1, .slice A2 m2 c2, .slice A3 m3 c3]) ∧ Keeps [] w w' := by
  have q0 : min (s.size : Int) 400 = (m0 : Int) := by omega
  have q1 : min (n1 : Int) 1200 = (m1 : Int) := by omega
  have q2 : min (n2 : Int) 1200 = (m2 : Int) := by omega
  have q3 : min (n3 : Int) 20 = (m3 : Int) := by omega
  have r0 : (m0 : Int) ≤ (s.size : Int) := by omega
  have r1 : (m1 : Int) ≤ (c1 : Int) := by omega
  have r2 : (m2 : Int) ≤ (c2 : Int) := by omega
  have r3 : (m3 : Int) ≤ (c3 : Int) := by omega
  have t0 : (0 : Int) ≤ (m0 : Int) := by omega
  have t1 : (0 : Int) ≤ (m1 : Int) := by omega
  have t2 : (0 : Int) ≤ (m2 : Int) := by omega
  have t3 : (0 : Int) ≤ (m3 : Int) := by omega
  obtain ⟨bx, hbx⟩ : ∃ bx, w.heap.size = bx := ⟨_, rfl⟩
  obtain ⟨w1, hw1⟩ : ∃ w1, w.alloc (.cells #[.string s, .slice A1 n1 c1, .slice A2 n2 c2, .slice A3 n3 c3] 25) = w1 := ⟨_, rfl⟩
  have hb1 : w1.heap[bx]? = some (.cells #[.string s, .slice A1 n1 c1, .slice A2 n2 c2, .slice A3 n3 c3] 25 (0, 0)) := by rw [← hw1, ← hbx]; exact (MapKept.heap_alloc w _).1
  have k1 : Keeps [] w w1 := by rw [← hw1]; exact Keeps.alloc [] w _
  have HB1 := Lib.hid hb1
  have HK1 := Lib.hid k1
  clear h0 h1 h2 h3 hc1 hc2 hc3 hb1 k1
  go_enter Tryd.func8, Tryd.ntmps8
  go_wp2_with fail
  obtain ⟨rb, hrb⟩ : ∃ rb, w1.heap.size = rb := ⟨_, rfl⟩
  refine wp_gn fun w2 hw2 => ?_
  have k2 : Keeps [] w1 w2 := by rw [hw2]; exact Keeps.alloc [] w1 _
  have hb2 := (k2.block bx (lt_of_block HB1.out) (by simp)).trans HB1.out
  have hr2 : w2.heap[rb]? = some (.cells #[.string ByteArray.empty, .slice none 0 0, .slice none 0 0, .slice none 0 0] 25 (0, 0)) := by rw [hw2, ← hrb]; exact (MapKept.heap_alloc w1 _).1
  have hlt : bx < rb := by rw [← hrb]; exact lt_of_block HB1.out
  rw [hrb]
  have HS := Lib.hid (show (fun W : World => W.cell? ⟨bx, 0, none⟩ = some (.string s) ∧ W.cell? ⟨bx, 1, none⟩ = some (.slice A1 n1 c1) ∧ W.cell? ⟨bx, 2, none⟩ = some (.slice A2 n2 c2) ∧ W.cell? ⟨bx, 3, none⟩ = some (.slice A3 n3 c3)) w2.drew from ⟨cell_of_block hb2 0, cell_of_block hb2 1, cell_of_block hb2 2, cell_of_block hb2 3⟩)
  have HB2 := Lib.hid hb2
  have HR2 := Lib.hid hr2
  have HK2 := Lib.hid k2
  refine wp_rel (R := fun a a' w' => ∃ u3 u4 u5 u6 u7 u8 u9 u10 u11 u12 u13 u14 u15 u16 u17 u18 u19 u20 u21 u22 u23 u24 u25 u26 u27 u28 u29 u30 u31 u32 u33 u34, a' = { tmps := #[.agg #[.string s, .slice A1 n1 c1, .slice A2 n2 c2, .slice A3 n3 c3], .pointer (some ⟨bx, 0, none⟩), .pointer (some ⟨rb, 0, none⟩), u3, u4, u5, u6, u7, u8, u9, u10, u11, u12, u13, u14, u15, u16, u17, u18, u19, u20, u21, u22, u23, u24, u25, u26, u27, u28, u29, u30, u31, u32, u33, u34, undef], defers := [] } ∧ w'.heap[bx]? = some (.cells #[.string (s.extract 0 m0), .slice A1 m1 c1, .slice A2 m2 c2, .slice A3 m3 c3] 25 (0, 0)) ∧ Keeps [bx] w2 w') ?reg ?rest
  case reg =>
    clear hw2 k2 hb2 hr2
    refine wp_region_K (fun W => W.cell? ⟨bx, 0, none⟩ = some (.string s) ∧ W.cell? ⟨bx, 1, none⟩ = some (.slice A1 n1 c1) ∧ W.cell? ⟨bx, 2, none⟩ = some (.slice A2 n2 c2) ∧ W.cell? ⟨bx, 3, none⟩ = some (.slice A3 n3 c3)) 29 (by kernel_rfl) ?_
    refine wpAnyK_takeP (i := 0) (oi := _) (v := ?v0) rfl (by kernel_rfl) (by kernel_rfl) (by kernel_rfl) (fun _ _ _ h => absurd h.1 (by simp)) (by kernel_rfl) (Or.inl ⟨by rfl, ?hy0⟩) HS.out ?rest0
    case hy0 => (intro w hSw; go_simp; try (with_reducible rfl))
    try simp only [List.getElem_toArray, List.getElem_cons_zero, List.getElem_cons_succ, Act.put, List.setIfInBounds_toArray, List.set_cons_zero, List.set_cons_succ]
    refine wpAnyK_take (i := 1) (oi := _) (v := ?v1) rfl (by kernel_rfl) (by kernel_rfl) (by kernel_rfl) (fun _ _ _ h => absurd h.1 (by simp)) (by kernel_rfl) (Or.inl ⟨by rfl, ?hy1⟩) HS.out ?rest1
    case hy1 => (intro w hSw; (try dsimp only at hSw); obtain ⟨a0, a1, a2, a3⟩ := hSw; go_simp; try (with_reducible rfl))
    try simp only [List.getElem_toArray, List.getElem_cons_zero, List.getElem_cons_succ, Act.put, List.setIfInBounds_toArray, List.set_cons_zero, List.set_cons_succ]
    refine wpAnyK_takeP (i := 2) (oi := _) (v := ?v2) rfl (by kernel_rfl) (by kernel_rfl) (by kernel_rfl) (fun _ _ _ h => absurd h.1 (by simp)) (by kernel_rfl) (Or.inl ⟨by rfl, ?hy2⟩) HS.out ?rest2
    case hy2 => (intro w hSw; go_simp; try (with_reducible rfl))
    try simp only [List.getElem_toArray, List.getElem_cons_zero, List.getElem_cons_succ, Act.put, List.setIfInBounds_toArray, List.set_cons_zero, List.set_cons_succ]
    refine wpAnyK_take (i := 3) (oi := _) (v := ?v3) rfl (by kernel_rfl) (by kernel_rfl) (by kernel_rfl) (fun _ _ _ h => absurd h.1 (by simp)) (by kernel_rfl) (Or.inl ⟨by rfl, ?hy3⟩) HS.out ?rest3
    case hy3 => (intro w hSw; (try dsimp only at hSw); obtain ⟨a0, a1, a2, a3⟩ := hSw; go_simp; try (with_reducible rfl))
    try simp only [List.getElem_toArray, List.getElem_cons_zero, List.getElem_cons_succ, Act.put, List.setIfInBounds_toArray, List.set_cons_zero, List.set_cons_succ]
    refine wpAnyK_takeP (i := 4) (oi := _) (v := ?v4) rfl (by kernel_rfl) (by kernel_rfl) (by kernel_rfl) (fun _ _ _ h => absurd h.1 (by simp)) (by kernel_rfl) (Or.inl ⟨by rfl, ?hy4⟩) HS.out ?rest4
    case hy4 => (intro w hSw; go_simp; try (with_reducible rfl))
    try simp only [List.getElem_toArray, List.getElem_cons_zero, List.getElem_cons_succ, Act.put, List.setIfInBounds_toArray, List.set_cons_zero, List.set_cons_succ]
    refine wpAnyK_takeP (i := 5) (oi := _) (v := ?v5) rfl (by kernel_rfl) (by kernel_rfl) (by kernel_rfl) (fun _ _ _ h => absurd h.1 (by simp)) (by kernel_rfl) (Or.inl ⟨by rfl, ?hy5⟩) HS.out ?rest5
    case hy5 => (intro w hSw; go_simp; try (with_reducible rfl))
    try simp only [List.getElem_toArray, List.getElem_cons_zero, List.getElem_cons_succ, Act.put, List.setIfInBounds_toArray, List.set_cons_zero, List.set_cons_succ]
    refine wpAnyK_takeP (i := 6) (oi := _) (v := ?v6) rfl (by kernel_rfl) (by kernel_rfl) (by kernel_rfl) (fun _ _ _ h => absurd h.1 (by simp)) (by kernel_rfl) (Or.inl ⟨by rfl, ?hy6⟩) HS.out ?rest6
    case hy6 => (intro w hSw; go_simp; try (with_reducible rfl))
    try simp only [List.getElem_toArray, List.getElem_cons_zero, List.getElem_cons_succ, Act.put, List.setIfInBounds_toArray, List.set_cons_zero, List.set_cons_succ]
    refine wpAnyK_takeP (i := 7) (oi := _) (v := ?v7) rfl (by kernel_rfl) (by kernel_rfl) (by kernel_rfl) (fun _ _ _ h => absurd h.1 (by simp)) (by kernel_rfl) (Or.inl ⟨by rfl, ?hy7⟩) HS.out ?rest7
    case hy7 => (intro w hSw; go_simp; try (with_reducible rfl))
    try simp only [List.getElem_toArray, List.getElem_cons_zero, List.getElem_cons_succ, Act.put, List.setIfInBounds_toArray, List.set_cons_zero, List.set_cons_succ]
    refine wpAnyK_take (i := 8) (oi := _) (v := ?v8) rfl (by kernel_rfl) (by kernel_rfl) (by kernel_rfl) (fun _ _ _ h => absurd h.1 (by simp)) (by kernel_rfl) (Or.inl ⟨by rfl, ?hy8⟩) HS.out ?rest8
    case hy8 => (intro w hSw; (try dsimp only at hSw); obtain ⟨a0, a1, a2, a3⟩ := hSw; go_simp; try (with_reducible rfl))
    try simp only [List.getElem_toArray, List.getElem_cons_zero, List.getElem_cons_succ, Act.put, List.setIfInBounds_toArray, List.set_cons_zero, List.set_cons_succ]
    refine wpAnyK_takeP (i := 9) (oi := _) (v := ?v9) rfl (by kernel_rfl) (by kernel_rfl) (by kernel_rfl) (fun _ _ _ h => absurd h.1 (by simp)) (by kernel_rfl) (Or.inl ⟨by rfl, ?hy9⟩) HS.out ?rest9
    case hy9 => (intro w hSw; go_simp; try (with_reducible rfl))
    try simp only [List.getElem_toArray, List.getElem_cons_zero, List.getElem_cons_succ, Act.put, List.setIfInBounds_toArray, List.set_cons_zero, List.set_cons_succ]
    refine wpAnyK_take (i := 10) (oi := _) (v := ?v10) rfl (by kernel_rfl) (by kernel_rfl) (by kernel_rfl) (fun _ _ _ h => absurd h.1 (by simp)) (by kernel_rfl) (Or.inl ⟨by rfl, ?hy10⟩) HS.out ?rest10
    case hy10 => (intro w hSw; (try dsimp only at hSw); obtain ⟨a0, a1, a2, a3⟩ := hSw; go_simp; try (with_reducible rfl))
    try simp only [List.getElem_toArray, List.getElem_cons_zero, List.getElem_cons_succ, Act.put, List.setIfInBounds_toArray, List.set_cons_zero, List.set_cons_succ]
    refine wpAnyK_takeP (i := 11) (oi := _) (v := ?v11) rfl (by kernel_rfl) (by kernel_rfl) (by kernel_rfl) (fun _ _ _ h => absurd h.1 (by simp)) (by kernel_rfl) (Or.inl ⟨by rfl, ?hy11⟩) HS.out ?rest11
    case hy11 => (intro w hSw; go_simp; try (with_reducible rfl))
    try simp only [List.getElem_toArray, List.getElem_cons_zero, List.getElem_cons_succ, Act.put, List.setIfInBounds_toArray, List.set_cons_zero, List.set_cons_succ]
    refine wpAnyK_takeP (i := 12) (oi := _) (v := ?v12) rfl (by kernel_rfl) (by kernel_rfl) (by kernel_rfl) (fun _ _ _ h => absurd h.1 (by simp)) (by kernel_rfl) (Or.inl ⟨by rfl, ?hy12⟩) HS.out ?rest12
    case hy12 => (intro w hSw; go_simp; try (with_reducible rfl))
    try simp only [List.getElem_toArray, List.getElem_cons_zero, List.getElem_cons_succ, Act.put, List.setIfInBounds_toArray, List.set_cons_zero, List.set_cons_succ]
    refine wpAnyK_takeP (i := 13) (oi := _) (v := ?v13) rfl (by kernel_rfl) (by kernel_rfl) (by kernel_rfl) (fun _ _ _ h => absurd h.1 (by simp)) (by kernel_rfl) (Or.inl ⟨by rfl, ?hy13⟩) HS.out ?rest13
    case hy13 => (intro w hSw; go_simp; try (with_reducible rfl))
    try simp only [List.getElem_toArray, List.getElem_cons_zero, List.getElem_cons_succ, Act.put, List.setIfInBounds_toArray, List.set_cons_zero, List.set_cons_succ]
    refine wpAnyK_takeP (i := 14) (oi := _) (v := ?v14) rfl (by kernel_rfl) (by kernel_rfl) (by kernel_rfl) (fun _ _ _ h => absurd h.1 (by simp)) (by kernel_rfl) (Or.inl ⟨by rfl, ?hy14⟩) HS.out ?rest14
    case hy14 => (intro w hSw; go_simp; try (with_reducible rfl))
    try simp only [List.getElem_toArray, List.getElem_cons_zero, List.getElem_cons_succ, Act.put, List.setIfInBounds_toArray, List.set_cons_zero, List.set_cons_succ]
    refine wpAnyK_take (i := 15) (oi := _) (v := ?v15) rfl (by kernel_rfl) (by kernel_rfl) (by kernel_rfl) (fun _ _ _ h => absurd h.1 (by simp)) (by kernel_rfl) (Or.inl ⟨by rfl, ?hy15⟩) HS.out ?rest15
    case hy15 => (intro w hSw; (try dsimp only at hSw); obtain ⟨a0, a1, a2, a3⟩ := hSw; go_simp; try (with_reducible rfl))
    try simp only [List.getElem_toArray, List.getElem_cons_zero, List.getElem_cons_succ, Act.put, List.setIfInBounds_toArray, List.set_cons_zero, List.set_cons_succ]
    refine wpAnyK_takeP (i := 16) (oi := _) (v := ?v16) rfl (by kernel_rfl) (by kernel_rfl) (by kernel_rfl) (fun _ _ _ h => absurd h.1 (by simp)) (by kernel_rfl) (Or.inl ⟨by rfl, ?hy16⟩) HS.out ?rest16
    case hy16 => (intro w hSw; go_simp; try (with_reducible rfl))
    try simp only [List.getElem_toArray, List.getElem_cons_zero, List.getElem_cons_succ, Act.put, List.setIfInBounds_toArray, List.set_cons_zero, List.set_cons_succ]
    refine wpAnyK_take (i := 17) (oi := _) (v := ?v17) rfl (by kernel_rfl) (by kernel_rfl) (by kernel_rfl) (fun _ _ _ h => absurd h.1 (by simp)) (by kernel_rfl) (Or.inl ⟨by rfl, ?hy17⟩) HS.out ?rest17
    case hy17 => (intro w hSw; (try dsimp only at hSw); obtain ⟨a0, a1, a2, a3⟩ := hSw; go_simp; try (with_reducible rfl))
    try simp only [List.getElem_toArray, List.getElem_cons_zero, List.getElem_cons_succ, Act.put, List.setIfInBounds_toArray, List.set_cons_zero, List.set_cons_succ]
    refine wpAnyK_takeP (i := 18) (oi := _) (v := ?v18) rfl (by kernel_rfl) (by kernel_rfl) (by kernel_rfl) (fun _ _ _ h => absurd h.1 (by simp)) (by kernel_rfl) (Or.inl ⟨by rfl, ?hy18⟩) HS.out ?rest18
    case hy18 => (intro w hSw; go_simp; try (with_reducible rfl))
    try simp only [List.getElem_toArray, List.getElem_cons_zero, List.getElem_cons_succ, Act.put, List.setIfInBounds_toArray, List.set_cons_zero, List.set_cons_succ]
    refine wpAnyK_takeP (i := 19) (oi := _) (v := ?v19) rfl (by kernel_rfl) (by kernel_rfl) (by kernel_rfl) (fun _ _ _ h => absurd h.1 (by simp)) (by kernel_rfl) (Or.inl ⟨by rfl, ?hy19⟩) HS.out ?rest19
    case hy19 => (intro w hSw; go_simp; try (with_reducible rfl))
    try simp only [List.getElem_toArray, List.getElem_cons_zero, List.getElem_cons_succ, Act.put, List.setIfInBounds_toArray, List.set_cons_zero, List.set_cons_succ]
    refine wpAnyK_takeP (i := 20) (oi := _) (v := ?v20) rfl (by kernel_rfl) (by kernel_rfl) (by kernel_rfl) (fun _ _ _ h => absurd h.1 (by simp)) (by kernel_rfl) (Or.inl ⟨by rfl, ?hy20⟩) HS.out ?rest20
    case hy20 => (intro w hSw; go_simp; try (with_reducible rfl))
    try simp only [List.getElem_toArray, List.getElem_cons_zero, List.getElem_cons_succ, Act.put, List.setIfInBounds_toArray, List.set_cons_zero, List.set_cons_succ]
    refine wpAnyK_takeP (i := 21) (oi := _) (v := ?v21) rfl (by kernel_rfl) (by kernel_rfl) (by kernel_rfl) (fun _ _ _ h => absurd h.1 (by simp)) (by kernel_rfl) (Or.inl ⟨by rfl, ?hy21⟩) HS.out ?rest21
    case hy21 => (intro w hSw; go_simp; try (with_reducible rfl))
    try simp only [List.getElem_toArray, List.getElem_cons_zero, List.getElem_cons_succ, Act.put, List.setIfInBounds_toArray, List.set_cons_zero, List.set_cons_succ]
    refine wpAnyK_take (i := 22) (oi := _) (v := ?v22) rfl (by kernel_rfl) (by kernel_rfl) (by kernel_rfl) (fun _ _ _ h => absurd h.1 (by simp)) (by kernel_rfl) (Or.inl ⟨by rfl, ?hy22⟩) HS.out ?rest22
    case hy22 => (intro w hSw; (try dsimp only at hSw); obtain ⟨a0, a1, a2, a3⟩ := hSw; go_simp; try (with_reducible rfl))
    try simp only [List.getElem_toArray, List.getElem_cons_zero, List.getElem_cons_succ, Act.put, List.setIfInBounds_toArray, List.set_cons_zero, List.set_cons_succ]
    refine wpAnyK_takeP (i := 23) (oi := _) (v := ?v23) rfl (by kernel_rfl) (by kernel_rfl) (by kernel_rfl) (fun _ _ _ h => absurd h.1 (by simp)) (by kernel_rfl) (Or.inl ⟨by rfl, ?hy23⟩) HS.out ?rest23
    case hy23 => (intro w hSw; go_simp; try (with_reducible rfl))
    try simp only [List.getElem_toArray, List.getElem_cons_zero, List.getElem_cons_succ, Act.put, List.setIfInBounds_toArray, List.set_cons_zero, List.set_cons_succ]
    refine wpAnyK_take (i := 24) (oi := _) (v := ?v24) rfl (by kernel_rfl) (by kernel_rfl) (by kernel_rfl) (fun _ _ _ h => absurd h.1 (by simp)) (by kernel_rfl) (Or.inl ⟨by rfl, ?hy24⟩) HS.out ?rest24
    case hy24 => (intro w hSw; (try dsimp only at hSw); obtain ⟨a0, a1, a2, a3⟩ := hSw; go_simp; try (with_reducible rfl))
    try simp only [List.getElem_toArray, List.getElem_cons_zero, List.getElem_cons_succ, Act.put, List.setIfInBounds_toArray, List.set_cons_zero, List.set_cons_succ]
    refine wpAnyK_takeP (i := 25) (oi := _) (v := ?v25) rfl (by kernel_rfl) (by kernel_rfl) (by kernel_rfl) (fun _ _ _ h => absurd h.1 (by simp)) (by kernel_rfl) (Or.inl ⟨by rfl, ?hy25⟩) HS.out ?rest25
    case hy25 => (intro w hSw; go_simp; try (with_reducible rfl))
    try simp only [List.getElem_toArray, List.getElem_cons_zero, List.getElem_cons_succ, Act.put, List.setIfInBounds_toArray, List.set_cons_zero, List.set_cons_succ]
    refine wpAnyK_takeP (i := 26) (oi := _) (v := ?v26) rfl (by kernel_rfl) (by kernel_rfl) (by kernel_rfl) (fun _ _ _ h => absurd h.1 (by simp)) (by kernel_rfl) (Or.inl ⟨by rfl, ?hy26⟩) HS.out ?rest26
    case hy26 => (intro w hSw; go_simp; try (with_reducible rfl))
    try simp only [List.getElem_toArray, List.getElem_cons_zero, List.getElem_cons_succ, Act.put, List.setIfInBounds_toArray, List.set_cons_zero, List.set_cons_succ]
    refine wpAnyK_takeP (i := 27) (oi := _) (v := ?v27) rfl (by kernel_rfl) (by kernel_rfl) (by kernel_rfl) (fun _ _ _ h => absurd h.1 (by simp)) (by kernel_rfl) (Or.inl ⟨by rfl, ?hy27⟩) HS.out ?rest27
    case hy27 => (intro w hSw; go_simp; try (with_reducible rfl))
    try simp only [List.getElem_toArray, List.getElem_cons_zero, List.getElem_cons_succ, Act.put, List.setIfInBounds_toArray, List.set_cons_zero, List.set_cons_succ]
    have d0 : w2.cell? ⟨bx, 0, none⟩ = some (.string s) := cell_of_block HB2.out 0
    have d1 : w2.cell? ⟨bx, 1, none⟩ = some (.slice A1 n1 c1) := cell_of_block HB2.out 1
    have d2 : w2.cell? ⟨bx, 2, none⟩ = some (.slice A2 n2 c2) := cell_of_block HB2.out 2
    have d3 : w2.cell? ⟨bx, 3, none⟩ = some (.slice A3 n3 c3) := cell_of_block HB2.out 3
    have y0 : w2.frozen? ⟨bx, 0, none⟩ = false := free_of_block HB2.out 0
    have y1 : w2.frozen? ⟨bx, 1, none⟩ = false := free_of_block HB2.out 1
    have y2 : w2.frozen? ⟨bx, 2, none⟩ = false := free_of_block HB2.out 2
    have y3 : w2.frozen? ⟨bx, 3, none⟩ = false := free_of_block HB2.out 3
    refine wpAnyK_one (i := 28) (o := _) (by kernel_rfl) rfl (fun K hK => ?_)
    try simp only [List.getElem_toArray, List.getElem_cons_zero, List.getElem_cons_succ, Act.put, List.setIfInBounds_toArray, List.set_cons_zero, List.set_cons_succ]
    go_simp
    refine hK.out _ _ (.inr HS.out) ?_
    clear hK K
    try simp only [List.getElem_toArray, List.getElem_cons_zero, List.getElem_cons_succ, Act.put, List.setIfInBounds_toArray, List.set_cons_zero, List.set_cons_succ]
    refine wpAnyK_one (i := 29) (o := _) (by kernel_rfl) rfl (fun K hK => ?_)
    try simp only [List.getElem_toArray, List.getElem_cons_zero, List.getElem_cons_succ, Act.put, List.setIfInBounds_toArray, List.set_cons_zero, List.set_cons_succ]
    go_simp
    refine hK.out _ _ (.inl (by kernel_rfl)) ?_
    clear hK K
    try simp only [List.getElem_toArray, List.getElem_cons_zero, List.getElem_cons_succ, Act.put, List.setIfInBounds_toArray, List.set_cons_zero, List.set_cons_succ]
    refine wpAnyK_one (i := 30) (o := _) (by kernel_rfl) rfl (fun K hK => ?_)
    try simp only [List.getElem_toArray, List.getElem_cons_zero, List.getElem_cons_succ, Act.put, List.setIfInBounds_toArray, List.set_cons_zero, List.set_cons_succ]
    go_simp
    refine hK.out _ _ (.inl (by kernel_rfl)) ?_
    clear hK K
    try simp only [List.getElem_toArray, List.getElem_cons_zero, List.getElem_cons_succ, Act.put, List.setIfInBounds_toArray, List.set_cons_zero, List.set_cons_succ]
    refine wpAnyK_one (i := 31) (o := _) (by kernel_rfl) rfl (fun K hK => ?_)
    try simp only [List.getElem_toArray, List.getElem_cons_zero, List.getElem_cons_succ, Act.put, List.setIfInBounds_toArray, List.set_cons_zero, List.set_cons_succ]
    go_simp
    refine hK.out _ _ (.inl (by kernel_rfl)) ?_
    clear hK K
    try simp only [List.getElem_toArray, List.getElem_cons_zero, List.getElem_cons_succ, Act.put, List.setIfInBounds_toArray, List.set_cons_zero, List.set_cons_succ]
    refine wpAnyK_one (i := 32) (o := _) (by kernel_rfl) rfl (fun K hK => ?_)
    try simp only [List.getElem_toArray, List.getElem_cons_zero, List.getElem_cons_succ, Act.put, List.setIfInBounds_toArray, List.set_cons_zero, List.set_cons_succ]
    go_simp
    refine hK.out _ _ (.inl (by kernel_rfl)) ?_
    clear hK K
    try simp only [List.getElem_toArray, List.getElem_cons_zero, List.getElem_cons_succ, Act.put, List.setIfInBounds_toArray, List.set_cons_zero, List.set_cons_succ]
    refine wpAnyK_one (i := 33) (o := _) (by kernel_rfl) rfl (fun K hK => ?_)
    try simp only [List.getElem_toArray, List.getElem_cons_zero, List.getElem_cons_succ, Act.put, List.setIfInBounds_toArray, List.set_cons_zero, List.set_cons_succ]
    go_simp
    refine hK.out _ _ (.inl (by kernel_rfl)) ?_
    clear hK K
    try simp only [List.getElem_toArray, List.getElem_cons_zero, List.getElem_cons_succ, Act.put, List.setIfInBounds_toArray, List.set_cons_zero, List.set_cons_succ]
    refine wpAnyK_one (i := 34) (o := _) (by kernel_rfl) rfl (fun K hK => ?_)
    try simp only [List.getElem_toArray, List.getElem_cons_zero, List.getElem_cons_succ, Act.put, List.setIfInBounds_toArray, List.set_cons_zero, List.set_cons_succ]
    go_simp
    refine hK.out _ _ (.inl (by kernel_rfl)) ?_
    clear hK K
    try simp only [List.getElem_toArray, List.getElem_cons_zero, List.getElem_cons_succ, Act.put, List.setIfInBounds_toArray, List.set_cons_zero, List.set_cons_succ]
    refine wpAnyK_one (i := 35) (o := _) (by kernel_rfl) rfl (fun K hK => ?_)
    try simp only [List.getElem_toArray, List.getElem_cons_zero, List.getElem_cons_succ, Act.put, List.setIfInBounds_toArray, List.set_cons_zero, List.set_cons_succ]
    go_simp
    refine hK.out _ _ (.inl (by kernel_rfl)) ?_
    clear hK K
    try simp only [List.getElem_toArray, List.getElem_cons_zero, List.getElem_cons_succ, Act.put, List.setIfInBounds_toArray, List.set_cons_zero, List.set_cons_succ]
    refine wpAnyK_done (by kernel_rfl) ?_ _
    have g0 := heap_setCell_self HB2.out 0 (.string (s.extract 0 m0))
    have g1 := heap_setCell_self g0 1 (.slice A1 m1 c1)
    have g2 := heap_setCell_self g1 2 (.slice A2 m2 c2)
    have g3 := heap_setCell_self g2 3 (.slice A3 m3 c3)
    have kk : Keeps [bx] w2 ((((w2.setCell ⟨bx, 0, none⟩ (.string (s.extract 0 m0))).setCell ⟨bx, 1, none⟩ (.slice A1 m1 c1)).setCell ⟨bx, 2, none⟩ (.slice A2 m2 c2)).setCell ⟨bx, 3, none⟩ (.slice A3 m3 c3)) := ((((Keeps.setCell w2 ⟨bx, 0, none⟩ _).trans (Keeps.setCell _ ⟨bx, 1, none⟩ _)).trans (Keeps.setCell _ ⟨bx, 2, none⟩ _)).trans (Keeps.setCell _ ⟨bx, 3, none⟩ _))
    refine ⟨rfl, _, _, _, _, _, _, _, _, _, _, _, _, _, _, _, _, _, _, _, _, _, _, _, _, _, _, _, _, _, _, _, _, rfl, ?_, kk.drew'⟩
    have g4 : ((((w2.setCell ⟨bx, 0, none⟩ (.string (s.extract 0 m0))).setCell ⟨bx, 1, none⟩ (.slice A1 m1 c1)).setCell ⟨bx, 2, none⟩ (.slice A2 m2 c2)).setCell ⟨bx, 3, none⟩ (.slice A3 m3 c3)).heap[bx]? = some (.cells #[.string (s.extract 0 m0), .slice A1 m1 c1, .slice A2 m2 c2, .slice A3 m3 c3] 25 (0, 0)) := by simpa using g3
    exact g4
  case rest =>
    rintro a' w3 ⟨u3, u4, u5, u6, u7, u8, u9, u10, u11, u12, u13, u14, u15, u16, u17, u18, u19, u20, u21, u22, u23, u24, u25, u26, u27, u28, u29, u30, u31, u32, u33, u34, rfl, hb3, k3⟩
    have e0 : w3.cell? ⟨bx, 0, none⟩ = some (.string (s.extract 0 m0)) := cell_of_block hb3 0
    have e1 : w3.cell? ⟨bx, 1, none⟩ = some (.slice A1 m1 c1) := cell_of_block hb3 1
    have e2 : w3.cell? ⟨bx, 2, none⟩ = some (.slice A2 m2 c2) := cell_of_block hb3 2
    have e3 : w3.cell? ⟨bx, 3, none⟩ = some (.slice A3 m3 c3) := cell_of_block hb3 3
    have hr3 : w3.heap[rb]? = some (.cells #[.string ByteArray.empty, .slice none 0 0, .slice none 0 0, .slice none 0 0] 25 (0, 0)) := (k3.block rb (lt_of_block HR2.out) (by simp; omega)).trans HR2.out
    have f0 : w3.cell? ⟨rb, 0, none⟩ = some (.string ByteArray.empty) := cell_of_block hr3 0
    have f1 : w3.cell? ⟨rb, 1, none⟩ = some (.slice none 0 0) := cell_of_block hr3 1
    have f2 : w3.cell? ⟨rb, 2, none⟩ = some (.slice none 0 0) := cell_of_block hr3 2
    have f3 : w3.cell? ⟨rb, 3, none⟩ = some (.slice none 0 0) := cell_of_block hr3 3
    have z0 : w3.frozen? ⟨rb, 0, none⟩ = false := free_of_block hr3 0
    have z1 : w3.frozen? ⟨rb, 1, none⟩ = false := free_of_block hr3 1
    have z2 : w3.frozen? ⟨rb, 2, none⟩ = false := free_of_block hr3 2
    have z3 : w3.frozen? ⟨rb, 3, none⟩ = false := free_of_block hr3 3
    have HR3 := Lib.hid hr3
    have HK3 := Lib.hid (show Keeps [] w w3 from ((HK1.out.mono (T := [bx]) (by simp)).trans ((HK2.out.mono (by simp)).trans k3)).fresh (fun x hx hl => by simp at hx; omega))
    clear hb3 hr3 k3
    go_wp2_with fail
    have g0 := heap_setCell_self HR3.out 0 (.string (s.extract 0 m0))
    have g1 := heap_setCell_self g0 1 (.slice A1 m1 c1)
    have g2 := heap_setCell_self g1 2 (.slice A2 m2 c2)
    have g3 := heap_setCell_self g2 3 (.slice A3 m3 c3)
    have kk : Keeps [rb] w3 ((((w3.setCell ⟨rb, 0, none⟩ (.string (s.extract 0 m0))).setCell ⟨rb, 1, none⟩ (.slice A1 m1 c1)).setCell ⟨rb, 2, none⟩ (.slice A2 m2 c2)).setCell ⟨rb, 3, none⟩ (.slice A3 m3 c3)) := ((((Keeps.setCell w3 ⟨rb, 0, none⟩ _).trans (Keeps.setCell _ ⟨rb, 1, none⟩ _)).trans (Keeps.setCell _ ⟨rb, 2, none⟩ _)).trans (Keeps.setCell _ ⟨rb, 3, none⟩ _))
    obtain ⟨w4, hw4⟩ : ∃ w4, ((((w3.setCell ⟨rb, 0, none⟩ (.string (s.extract 0 m0))).setCell ⟨rb, 1, none⟩ (.slice A1 m1 c1)).setCell ⟨rb, 2, none⟩ (.slice A2 m2 c2)).setCell ⟨rb, 3, none⟩ (.slice A3 m3 c3)) = w4 := ⟨_, rfl⟩
    rw [hw4] at kk g3 ⊢
    have r0 : w4.cell? ⟨rb, 0, none⟩ = some (.string (s.extract 0 m0)) := by simpa using cell_of_block g3 0
    have r1 : w4.cell? ⟨rb, 1, none⟩ = some (.slice A1 m1 c1) := by simpa using cell_of_block g3 1
    have r2 : w4.cell? ⟨rb, 2, none⟩ = some (.slice A2 m2 c2) := by simpa using cell_of_block g3 2
    have r3 : w4.cell? ⟨rb, 3, none⟩ = some (.slice A3 m3 c3) := by simpa using cell_of_block g3 3
    have hk4 : Keeps [] w w4 := ((HK3.out.mono (T := [rb]) (by simp)).trans kk).fresh (fun x hx hl => by simp at hx; omega)
    clear hw4 g0 g1 g2 g3 kk
    exact bodyPost_ret (v := .agg #[.string (s.extract 0 m0), .slice A1 m1 c1, .slice A2 m2 c2, .slice A3 m3 c3]) (by simp [results, Tryd.results8, go_sem, r0, r1, r2, r3]) rfl ⟨rfl, hk4⟩
end Go.Proofs.YthcpeceamiibaaaDoor
