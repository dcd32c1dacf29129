/-
  The walks of package host: what it may send (nothing; one piece). Condition: a host's numbers are in the ranges of their kinds.
-/
import Derived.Test.YtgaidloicmkdaaaHostP
import Derived.Deep.DeepCutAuto
import Derived.Deep.CutRange
import Derived.Deep.LoopGhost
namespace Go.Proofs.Ytgaidloicmkdaaa
open Go.RowKit
set_option linter.unusedVariables false
set_option linter.unusedSimpArgs false
attribute [local go_sem ↓] Go.wp_at_zero Go.wp_at_succ

def HS.settle (s : HS) (now : Int) : HS := if s.una = s.fin then { s with set := false } else if s.set then s else s.begin now
/-- There is nothing to send. -/
def HS.Still (s : HS) : Prop := s.left s.nxt s.win ≤ 0 ∨ s.nxt = s.fin


set_option maxRecDepth 100000 in
set_option maxHeartbeats 2000000 in
theorem hsend_none {w : World} {b : Nat} {s : HS} (h : HostAt w b s) (ok : s.Ok) (now : Int) (n0 : 0 ≤ now) (n1 : now ≤ 4398046511104) (h4 : 4 ≤ s.st) (h10 : s.st < 10) (hst : s.Still) :
    Calls Try.prog 43 #[.pointer (some ⟨b, 0, none⟩), .int .u64 now] w fun e w' => e = .returned (.slice none 0 0) ∧ HostAt w' b (s.settle now) ∧ Keeps [b] w w' := by
  have H := Lib.hid h
  have HS0 := Lib.hid (show Calls Try.prog 67 #[.pointer (some ⟨b, 0, none⟩)] w fun e w' => e = .returned (.bool true) ∧ w = w' by
    have := hsends_any h
    rw [decide_eq_true (show 4 ≤ s.st ∧ s.st < 10 from ⟨h4, h10⟩)] at this
    exact this)
  have HW := Lib.hid (fun W (hW : HostAt W b s) => hwindow_any hW ok.una ok.edge)
  have wb := s.win_bd
  have HP := Lib.hid (fun W (hW : HostAt W b s) => hpiece_none hW ok s.nxt s.win ok.nxt ⟨wb.1, by omega⟩ hst)
  have HE := Lib.hid (fun W (hW : HostAt W b s) => hend_any hW ok.iss (by have := ok.out; omega))
  have r0 := ok.rto
  have HB := Lib.hid (fun W (hW : HostAt W b s) => hbegin_any hW now (by omega) r0.2 n0 n1)
  have c11 := h.c11
  have n11 := World.new_ne w _ c11
  have F := Lib.hid (show s.settle now = if s.una = s.fin then { s with set := false } else if s.set then s else s.begin now from rfl)
  clear h ok hst h4 h10 r0 wb
  go_enter Try.func43, Try.ntmps43
  go_wp2_with fail
  refine HS0.out.mono ?_
  rintro e w1 ⟨rfl, rfl⟩
  go_wp2_with fail
  go_loopg [5] 0 (fun g v wr => v = .slice none 0 0 ∧ wr = w ∧ g = 0)
  case atStart => exact ⟨rfl, rfl, rfl⟩
  case round =>
    obtain ⟨rfl, rfl, rfl⟩ := hrel
    go_upto_region 4 with fail
    go_cut [8] (fun q wx => q = .bool false ∧ Keeps [] wr wx)
    case first =>
      have p11 := keeps_cell0 (o := .cells #[.int .u16 0, .int .u16 0, .int .u32 0, .int .u32 0, .int .u8 0, .int .u16 0, .int .u16 0, .slice none 0 0, .slice none 0 0] 30) c11
      have q11 : wr.drew.cell? ⟨b, 11, none⟩ = some (.int .u32 s.nxt) := c11
      go_region_held3 (fun w' => w'.cell? ⟨b, 11, none⟩ = some (.int .u32 s.nxt)) (first | with_reducible assumption | exact cell_keeps (S := []) (w := wr) (by (repeat (first | with_reducible assumption | with_reducible exact Keeps.refl _ _ | with_reducible apply Keeps.alloc' | with_reducible apply Keeps.drew' | with_reducible apply Keeps.drewN' | (with_reducible apply Keeps.setCell'; rotate_left; · simp)))) c11 (by simp)) (first | (go_at_call 45; refine (HW.out _ (H.out.keep0 (by (repeat (first | with_reducible exact Keeps.refl _ _ | with_reducible apply Keeps.alloc' | with_reducible apply Keeps.drew' | with_reducible apply Keeps.drewN' | (with_reducible apply Keeps.setCell'; rotate_left; · simp)))))).mono ?_; rintro e w2 ⟨rfl, n2, rfl⟩) | (go_at_call 44; refine (HP.out _ (H.out.keep0 (by (repeat (first | with_reducible exact Keeps.refl _ _ | with_reducible apply Keeps.alloc' | with_reducible apply Keeps.drew' | with_reducible apply Keeps.drewN' | (with_reducible apply Keeps.setCell'; rotate_left; · simp)))))).mono ?_; rintro e w3 ⟨rfl, k3⟩; have kw3 : Keeps [] wr w3 := Keeps.trans (by (repeat (first | with_reducible exact Keeps.refl _ _ | with_reducible apply Keeps.alloc' | with_reducible apply Keeps.drew' | with_reducible apply Keeps.drewN' | (with_reducible apply Keeps.setCell'; rotate_left; · simp)))) k3; unfold HS.ack segV; try (have hs5 := (k3.block wr.heap.size (by simp) (by simp)).trans (MapKept.heap_alloc wr _).1; have hsc0 := cell_of_block hs5 0; have hsc1 := cell_of_block hs5 1; have hsc2 := cell_of_block hs5 2; have hsc3 := cell_of_block hs5 3; have hsc4 := cell_of_block hs5 4; have hsc5 := cell_of_block hs5 5; have hsc6 := cell_of_block hs5 6; have hsc7 := cell_of_block hs5 7; have hsc8 := cell_of_block hs5 8; simp at hsc0 hsc1 hsc2 hsc3 hsc4 hsc5 hsc6 hsc7 hsc8; have hsf0 := free_of_block hs5 0; have hsf1 := free_of_block hs5 1; have hsf2 := free_of_block hs5 2; have hsf3 := free_of_block hs5 3; have hsf4 := free_of_block hs5 4; have hsf5 := free_of_block hs5 5; have hsf6 := free_of_block hs5 6; have hsf7 := free_of_block hs5 7; have hsf8 := free_of_block hs5 8; clear hs5); clear k3))
      all_goals
        go_wp2_with fail
        go_meet
        exact ⟨rfl, by (repeat (first | with_reducible assumption | with_reducible exact Keeps.refl _ _ | with_reducible apply Keeps.alloc' | with_reducible apply Keeps.drew' | with_reducible apply Keeps.drewN' | (with_reducible apply Keeps.setCell'; rotate_left; · simp)))⟩
    case rest =>
      obtain ⟨rfl, kx⟩ := hcut
      have HX := Lib.hid (H.out.keep0 kx)
      have KX := Lib.hid kx
      have c10 := HX.out.c10
      have c26 := HX.out.c26
      have z26 := HX.out.fz 26
      clear kx n11 c11
      by_cases hu : s.una = s.fin
      · have hb : (s.una == s.fin) = true := by simpa using hu
        rw [if_pos hu] at F
        clear hu
        go_wp2_with fail
        go_quiet ((go_at_call 47; exact Calls.quiet_of (HE.out _ (HX.out.keep0 (Keeps.drewN _ _ _)))))
        go_wp2_with fail
        go_ret
        refine ⟨rfl, ?_, ?_⟩
        · rw [F.out]
          exact (HX.out.s26 _).keep0 (Keeps.drewN _ _ _)
        · refine Keeps.trans (KX.out.mono (by simp)) ?_
          (repeat (first | with_reducible assumption | with_reducible exact Keeps.refl _ _ | with_reducible apply Keeps.alloc' | with_reducible apply Keeps.drew' | with_reducible apply Keeps.drewN' | (with_reducible apply Keeps.setCell'; rotate_left; · simp)))
      · have hb : (s.una == s.fin) = false := by simpa using hu
        rw [if_neg hu] at F
        clear hu
        cases hs : s.set
        · rw [hs] at c26
          rw [if_neg (by simp [hs])] at F
          clear hs
          go_wp2_with fail
          go_quiet ((go_at_call 47; exact Calls.quiet_of (HE.out _ (HX.out.keep0 (Keeps.drewN _ _ _)))))
          go_wp2_with fail
          refine (HB.out _ (HX.out.keep0 (Keeps.drewN _ _ _))).mono ?_
          rintro e w5 ⟨rfl, h5, k5⟩
          have H5 := Lib.hid h5
          have K5 := Lib.hid k5
          clear h5 k5
          go_wp2_with fail
          go_ret
          rw [F.out]
          exact ⟨rfl, H5.out, ((KX.out.trans (Keeps.drewN _ _ _)).mono (by simp)).trans K5.out⟩
        · rw [hs] at c26
          rw [if_pos hs] at F
          clear hs
          go_wp2_with fail
          go_quiet ((go_at_call 47; exact Calls.quiet_of (HE.out _ (HX.out.keep0 (Keeps.drewN _ _ _)))))
          go_wp2_with fail
          go_ret
          rw [F.out]
          exact ⟨rfl, HX.out.keep0 (Keeps.drewN _ _ _), (KX.out.trans (Keeps.drewN _ _ _)).mono (by simp)⟩

theorem Try.infoSeg : (Try.prog.info? 30).map (fun i => (i.zero, i.size, i.bytes)) = some (some (.agg #[.int .u16 0, .int .u16 0, .int .u32 0, .int .u32 0, .int .u8 0, .int .u16 0, .int .u16 0, .slice none 0 0, .slice none 0 0]), 9, 72) := by kernel_rfl
theorem OneSeg.of_own {w : World} {B e : Nat} {v : Value} {s : Seg} {ov dv : Value} (h : w.ownsRow B e 9 v 1 (segC s ov dv)) (hs : SegAt w s ov dv) : OneSeg w v s ov dv := by
  rcases h.2 with ⟨rfl, h0⟩ | ⟨g, cap, cur, rfl, hb, hg, hnc, hm, hsz, ht⟩
  · cases h0
  · refine ⟨g, cap, rfl, hnc, hm, fun k u hu => ?_, hs⟩
    have := h.cells (g := g) rfl k u hu
    have e0 : (⟨g, 0, none⟩ : Addr).add k = ⟨g, k, none⟩ := by unfold Addr.add; split <;> simp_all
    rw [e0] at this
    exact this
theorem segC_one (s : Seg) (A1 A2 : Option Addr) (n1 c1 n2 c2 : Nat) : ∀ u ∈ segC s (.slice A1 n1 c1) (.slice A2 n2 c2), u.oneCell' = true := by
  intro u hu
  simp only [segC, List.mem_cons, List.not_mem_nil, or_false] at hu
  rcases hu with rfl | rfl | rfl | rfl | rfl | rfl | rfl | rfl | rfl <;> rfl
/-- append(nil, a segment). -/
theorem wpList_append_seg {P : Program} {w : World} {ops : Array Oper} {rest : List Oper} {o : Oper} {a : Act} {Q : Exit → Act → World → Prop} (hg : o.guard = none) (s x : Operand) (t e : Nat)
    (ho : o.op = .call { callee := .builtin .append, args := #[s, x], argTypes := #[t, t] }) (ht : P.underlying t = some (.slice e)) (z : Value) (hi : (P.info? e).map (fun i => (i.zero, i.size, i.bytes)) = some (some z, 9, 72)) (hz : z.cells.size = 9)
    (hs : a.eval s = .slice none 0 0) (g : Nat) (hx : a.eval x = .slice (some ⟨g, 0, none⟩) 1 1) (sg : Seg) (A1 A2 : Option Addr) (n1 c1 n2 c2 : Nat) (zz : Nat × Nat)
    (hb : w.heap[g]? = some (.cells (segC sg (.slice A1 n1 c1) (.slice A2 n2 c2)).toArray e zz)) (hsa : SegAt w sg (.slice A1 n1 c1) (.slice A2 n2 c2))
    (h : ∀ v' w', OneSeg w' v' sg (.slice A1 n1 c1) (.slice A2 n2 c2) → Keeps [] w w' → wpList P ops Q rest (a.put o.dst v') w') : wpList P ops Q (o :: rest) a w := by
  obtain ⟨i0, hi0, hz0, hz1, hz2⟩ := info_parts hi
  refine wpList_plain hg fun K' hK' => ?_
  obtain ⟨v', w', hrun, h2, h3, _, _⟩ := run_append_own_at (P := P) w w.heap.size t o.type e i0 z 9 72 ht hi0 hz0 hz1 hz2 hz (by omega) (.slice none 0 0) 0 [] (World.ownsRow_nil _ _ _ _) ⟨g, 0, none⟩ 1 1 (segC sg (.slice A1 n1 c1) (.slice A2 n2 c2)) rfl
    (fun j u hu => by
      have e0 : (⟨g, 0, none⟩ : Addr).add j = ⟨g, j, none⟩ := by unfold Addr.add; split <;> simp_all
      rw [e0]
      simp [World.cell?, hb, hu]) (segC_one _ _ _ _ _ _ _) (by simp [maxLen]) (by omega) (Nat.le_refl _)
  have kk : Keeps [] w w' := Keeps.grown0 (by simpa [Value.ownBlock] using h3)
  unfold Oper.wp execOp
  simp only [ho, resolve, invoke, builtin, Sem.run_bind, Sem.run_pure, Result.andThen_ok, List.map_toArray, List.map_cons, List.map_nil, hs, hx, hrun]
  exact hK' _ _ (h v' w' (OneSeg.of_own (by simpa using h2) (hsa.keep0 kk)) kk)

theorem nine_set {w : World} {g t : Nat} {z : Nat × Nat} {z0 z1 z2 z3 z4 z5 z6 z7 z8 : Value} (h : w.heap[g]? = some (.cells #[z0, z1, z2, z3, z4, z5, z6, z7, z8] t z)) (v0 v1 v2 v3 v4 v5 v6 v7 v8 : Value) : (((((((((w.setCell ⟨g, 0, none⟩ v0).setCell ⟨g, 1, none⟩ v1).setCell ⟨g, 2, none⟩ v2).setCell ⟨g, 3, none⟩ v3).setCell ⟨g, 4, none⟩ v4).setCell ⟨g, 5, none⟩ v5).setCell ⟨g, 6, none⟩ v6).setCell ⟨g, 7, none⟩ v7).setCell ⟨g, 8, none⟩ v8).heap[g]? = some (.cells #[v0, v1, v2, v3, v4, v5, v6, v7, v8] t z) := by
  have h0 := heap_setCell_self h 0 v0
  simp only [List.setIfInBounds_toArray, List.set_cons_zero, List.set_cons_succ] at h0
  have h1 := heap_setCell_self h0 1 v1
  simp only [List.setIfInBounds_toArray, List.set_cons_zero, List.set_cons_succ] at h1
  have h2 := heap_setCell_self h1 2 v2
  simp only [List.setIfInBounds_toArray, List.set_cons_zero, List.set_cons_succ] at h2
  have h3 := heap_setCell_self h2 3 v3
  simp only [List.setIfInBounds_toArray, List.set_cons_zero, List.set_cons_succ] at h3
  have h4 := heap_setCell_self h3 4 v4
  simp only [List.setIfInBounds_toArray, List.set_cons_zero, List.set_cons_succ] at h4
  have h5 := heap_setCell_self h4 5 v5
  simp only [List.setIfInBounds_toArray, List.set_cons_zero, List.set_cons_succ] at h5
  have h6 := heap_setCell_self h5 6 v6
  simp only [List.setIfInBounds_toArray, List.set_cons_zero, List.set_cons_succ] at h6
  have h7 := heap_setCell_self h6 7 v7
  simp only [List.setIfInBounds_toArray, List.set_cons_zero, List.set_cons_succ] at h7
  have h8 := heap_setCell_self h7 8 v8
  simp only [List.setIfInBounds_toArray, List.set_cons_zero, List.set_cons_succ] at h8
  exact h8

end Go.Proofs.Ytgaidloicmkdaaa
