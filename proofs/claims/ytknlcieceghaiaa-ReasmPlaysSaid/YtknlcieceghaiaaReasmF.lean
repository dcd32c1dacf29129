/-
  The walks of the document's row of places (5): New. No condition.
-/
import Derived.Test.YtknlcieceghaiaaReasmE
namespace Go.Proofs.Ytknlcieceghaiaa
open Go.RowKit
set_option linter.unusedVariables false
set_option linter.unusedSimpArgs false

/-- make([]T, n), T of one cell -/
theorem make_row {α : Type} {enc : α → Value} {P : Program} (w : World) (z : α) (t e : TypeId) (h1 : P.underlying t = some (.slice e)) (hi : (P.info? e).map (fun i => (i.zero, i.size, i.bytes)) = some (some (enc z), 1, 1)) (hz : (enc z).cells = #[enc z]) (n : Nat) (b2 : n ≤ 140737488355328) :
    ∃ w', (Instr.makeSlice t (.int .i64 (n : Int)) (.int .i64 (n : Int))).run P w = .ok (.slice (some ⟨w.heap.size, 0, none⟩) n n) w' ∧ RowM enc e w' w.heap.size n (List.replicate n z) ∧ Keeps [] w w' := by
  obtain ⟨i0, hi0, hz0, hz1, hz2⟩ := info_parts hi
  obtain ⟨w', hrun, hown, hgr⟩ := run_make_full (P := P) w w.heap.size t e i0 (enc z) 1 h1 hi0 hz0 hz1 .i64 .i64 n (by rw [hz2]; omega) (by simp only [maxLen]; omega) (Nat.le_refl _)
  refine ⟨w', hrun, ?_, Keeps.grown0 hgr⟩
  rcases hown.2 with ⟨h0, _⟩ | ⟨g, cap, cur, he, _, hh, _, hm, hs, ht⟩
  · cases h0
  · injection he with e1 e2 e3
    injection e1 with e1
    injection e1 with e1
    subst e1 e3
    refine ⟨by simp, hm, cur, hh, by omega, ?_⟩
    rw [List.length_replicate, List.map_replicate]
    simp only [Nat.mul_one] at ht
    rw [ht]
    simp only [madeCells, hz, Array.toList_map, Array.toList_range]
    rw [List.eq_replicate_iff]
    refine ⟨by simp, fun b hb => ?_⟩
    obtain ⟨i, _, rfl⟩ := List.mem_map.1 hb
    simp [Nat.mod_one]
set_option maxRecDepth 100000 in
theorem rnew_bad (w : World) (next n : Int) (hbad : n < 0 ∨ 16384 < n) : Calls Try.prog 16 #[.int .u32 next, .int .i64 n] w fun e w' => e = .returned (.tuple #[.pointer none, .int .i64 1]) ∧ w' = w := by
  by_cases h1 : n < 0
  · clear hbad
    go_enter Try.func16, Try.ntmps16
    go_wp2_with fail
    go_ret2
    exact ⟨rfl, rfl⟩
  · have h2 : (16384 : Int) < n := by omega
    clear hbad
    go_enter Try.func16, Try.ntmps16
    go_wp2_with fail
    go_ret2
    exact ⟨rfl, rfl⟩
def RB.new (next : Int) (n : Nat) : RB := ⟨next, n, fun _ => false, fun _ => 0⟩
theorem RB.new_is (next : Int) (n : Nat) : (RB.new next n).is = List.replicate n false := by
  unfold RB.is RB.new
  rw [List.eq_replicate_iff]
  exact ⟨by simp, fun b hb => by obtain ⟨_, _, h⟩ := List.mem_map.1 hb; exact h.symm⟩
theorem RB.new_by (next : Int) (n : Nat) : (RB.new next n).by_ = List.replicate n 0 := by
  unfold RB.by_ RB.new
  rw [List.eq_replicate_iff]
  exact ⟨by simp, fun b hb => by obtain ⟨_, _, h⟩ := List.mem_map.1 hb; exact h.symm⟩
theorem new_done {w W : World} {next : Int} {n g1 g2 : Nat} (h1 : RowM Value.bool 4 W g1 n (List.replicate n false)) (h2 : RowM u8V 5 W g2 n (List.replicate n 0)) (hg1 : w.heap.size ≤ g1) (hg2 : w.heap.size ≤ g2) (k : Keeps [] w W) :
    RbAt (W.alloc (.cells #[.int .u32 next, .slice (some ⟨g1, 0, none⟩) n n, .slice (some ⟨g2, 0, none⟩) n n] 49)) W.heap.size [g1, g2] (RB.new next n) (.slice (some ⟨g1, 0, none⟩) n n) (.slice (some ⟨g2, 0, none⟩) n n) ∧ (∀ y ∈ [g1, g2], w.heap.size ≤ y ∧ y < (W.alloc (.cells #[.int .u32 next, .slice (some ⟨g1, 0, none⟩) n n, .slice (some ⟨g2, 0, none⟩) n n] 49)).heap.size) ∧ w.heap.size ≤ W.heap.size ∧ W.heap.size ∉ [g1, g2] ∧ Keeps [] w (W.alloc (.cells #[.int .u32 next, .slice (some ⟨g1, 0, none⟩) n n, .slice (some ⟨g2, 0, none⟩) n n] 49)) := by
  have l1 := h1.lt
  have l2 := h2.lt
  have ka : Keeps [] W (W.alloc (.cells #[.int .u32 next, .slice (some ⟨g1, 0, none⟩) n n, .slice (some ⟨g2, 0, none⟩) n n] 49)) := Keeps.alloc [] W _
  have hz := ka.size
  have r1 := (h1.row).keep0 ka
  have r2 := (h2.row).keep0 ka
  rw [List.length_replicate] at r1 r2
  refine ⟨⟨(MapKept.heap_alloc W _).1, ?_, ?_⟩, ?_, k.size, ?_, k.trans ka⟩
  · rw [RB.new_is]; exact r1.mono (by simp)
  · rw [RB.new_by]; exact r2.mono (by simp)
  · simp; omega
  · simp; omega
set_option maxRecDepth 100000 in
set_option maxHeartbeats 4000000 in
theorem rnew_ok (w : World) (next : Int) (n : Nat) (hn : n ≤ 16384) : Calls Try.prog 16 #[.int .u32 next, .int .i64 n] w fun e w' => ∃ q J v1 v2, e = .returned (.tuple #[.pointer (some ⟨q, 0, none⟩), .int .i64 0]) ∧ RbAt w' q J (RB.new next n) v1 v2 ∧ (∀ y ∈ J, w.heap.size ≤ y ∧ y < w'.heap.size) ∧ w.heap.size ≤ q ∧ q ∉ J ∧ Keeps [] w w' := by
  have g1 : ¬ (n : Int) < 0 := by omega
  have g2 : ¬ (16384 : Int) < (n : Int) := by omega
  obtain ⟨fb, hfb⟩ := Classical.axiomOfChoice (fun W : World => make_row (enc := Value.bool) (P := Try.prog) W false 30 4 Try.underlying30 Try.infoBl rfl n (by omega))
  obtain ⟨fy, hfy⟩ := Classical.axiomOfChoice (fun W : World => make_row (enc := u8V) (P := Try.prog) W 0 22 5 Try.underlying22 Try.infoU8 rfl n (by omega))
  have HFB := Lib.hid (fun W => (hfb W).2)
  have HFY := Lib.hid (fun W => (hfy W).2)
  have hrb := fun W : World => (hfb W).1
  have hry := fun W : World => (hfy W).1
  clear hfb hfy
  go_enter Try.func16, Try.ntmps16
  go_wp2_with fail
  go_region_law (fail)
  all_goals
    go_wp2_with fail
    go_ret2
    have kd : Keeps [] w w.drew := Keeps.drew [] w
    first
      | exact ⟨_, _, _, _, rfl, new_done ((HFB.out w.drew).1.keep (HFY.out (fb w.drew)).2 (by simp)) (HFY.out (fb w.drew)).1 (Nat.le_refl _) (Nat.le_trans kd.size (HFB.out w.drew).2.size) ((kd.trans (HFB.out w.drew).2).trans (HFY.out (fb w.drew)).2)⟩
      | exact ⟨_, _, _, _, rfl, new_done (HFB.out (fy w.drew)).1 ((HFY.out w.drew).1.keep (HFB.out (fy w.drew)).2 (by simp)) (Nat.le_trans kd.size (HFY.out w.drew).2.size) (Nat.le_refl _) ((kd.trans (HFY.out w.drew).2).trans (HFB.out (fy w.drew)).2)⟩
end Go.Proofs.Ytknlcieceghaiaa
