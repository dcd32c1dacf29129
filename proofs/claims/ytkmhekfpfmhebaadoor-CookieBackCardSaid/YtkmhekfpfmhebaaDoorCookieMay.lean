/-
  The walk of the cookie laws' helper 'may'. Condition: numbers are in the ranges of their kinds.
-/
import Derived.Test.YtkmhekfpfmhebaaDoorCookieA
namespace Go.Proofs.YtkmhekfpfmhebaaDoor
open Go.RowKit

/-- Three cells stored, one after the other. -/
theorem store3 {W : World} {b : Nat} {a0 a1 a2 v0 v1 v2 : Value} {t : TypeId} (h : W.heap[b]? = some (.cells #[a0, a1, a2] t)) :
    (((W.setCell ⟨b, 0, none⟩ v0).setCell ⟨b, 1, none⟩ v1).setCell ⟨b, 2, none⟩ v2).heap[b]? = some (.cells #[v0, v1, v2] t) := by
  have h0 := heap_setCell_self h 0 v0
  have h1 := heap_setCell_self h0 1 v1
  have h2 := heap_setCell_self h1 2 v2
  simpa using h2
theorem store3_other {W : World} {b c : Nat} (hc : ¬ c = b) {v0 v1 v2 : Value} :
    (((W.setCell ⟨b, 0, none⟩ v0).setCell ⟨b, 1, none⟩ v1).setCell ⟨b, 2, none⟩ v2).heap[c]? = W.heap[c]? := by
  rw [Below.heap_setCell _ _ _ _ hc, Below.heap_setCell _ _ _ _ hc, Below.heap_setCell _ _ _ _ hc]
theorem store3_keeps {w W : World} {b : Nat} (k : Keeps [] w W) (hb : w.heap.size ≤ b) {v0 v1 v2 : Value} :
    Keeps [] w (((W.setCell ⟨b, 0, none⟩ v0).setCell ⟨b, 1, none⟩ v1).setCell ⟨b, 2, none⟩ v2) :=
  ((k.setCell' (p := ⟨b, 0, none⟩) (Or.inl hb) _).setCell' (p := ⟨b, 1, none⟩) (Or.inl hb) _).setCell' (p := ⟨b, 2, none⟩) (Or.inl hb) _
theorem mayI_ok (x : Inf) : (mayI x).Ok := by
  unfold Inf.Ok mayI
  simp only
  omega
theorem mayI_in (x : Inf) : (mayI x).In := by
  constructor <;> unfold mayI <;> simp only <;> omega

theorem wrapmod (x d : Int) (hd : d = 8 ∨ d = 16) : RowKit.wrap64 ((IntKind.u64.wrap x).tmod d) = x % d := by
  have h : 0 ≤ IntKind.u64.wrap x := (wrap_bd x).1
  rw [Int.tmod_eq_emod_of_nonneg h, IntKind.wrap_u64]
  unfold RowKit.wrap64
  rcases hd with rfl | rfl <;> omega

set_option maxHeartbeats 4000000 in
theorem may_any (w : World) (x : Inf) (hx : x.In) :
    Calls Tryd.prog 18 #[infV x] w fun e w' => e = .returned (infV (mayI x)) ∧ Keeps [] w w' := by
  obtain ⟨c, k, s⟩ := x
  obtain ⟨x0, x1, x2, x3⟩ := hx
  simp only at x0 x1 x2 x3
  unfold infV
  go_enter Tryd.func18, Tryd.ntmps18
  go_upto_region 1 with fail
  refine wp_gn (fun W1 hW1 => ?_)
  have kW : Keeps [] w W1 := by rw [hW1]; exact ((Keeps.refl _ _).alloc' _).alloc' _
  have ⟨hx0, hx1⟩ := two_allocs w (.cells #[.int .i64 c, .bool k, .int .i64 s] 30) (.cells #[.int .i64 0, .bool false, .int .i64 0] 30)
  rw [← hW1] at hx0 hx1
  have m0 := cell_of_block hx0 0
  have f0 := free_of_block hx0 0
  simp at m0
  have HX0 := Lib.hid hx0
  have HX1 := Lib.hid hx1
  have KW := Lib.hid kW
  clear kW hx0 hx1 hW1
  go_upto_region 2 with fail
  refine wp_gn (fun W2 hW2 => ?_)
  rw [wrapmod c 8 (.inl rfl)] at hW2
  have hy0 := heap_setCell_self HX0.out 0 (.int .i64 (c % 8))
  have hy1 := (Below.heap_setCell W1 ⟨w.heap.size, 0, none⟩ (.int .i64 (c % 8)) (w.heap.size + 1) (by simp)).trans HX1.out
  have k2 : Keeps [] w W2 := by rw [hW2]; exact KW.out.setCell' (p := ⟨w.heap.size, 0, none⟩) (Or.inl (Nat.le_refl _)) _
  rw [← hW2] at hy0 hy1
  have HY0 := Lib.hid hy0
  have HY1 := Lib.hid hy1
  have K2 := Lib.hid k2
  clear m0 f0 hW2 hy0 hy1 k2
  have m2 := cell_of_block HY0.out 2
  have f2 := free_of_block HY0.out 2
  simp at m2
  go_upto_region 3 with fail
  rw [wrapmod s 16 (.inr rfl)]
  refine wp_gn (fun W3 hW3 => ?_)
  rw [show RowKit.wrap64 (s % 16 - 1) = s % 16 - 1 by unfold RowKit.wrap64; omega] at hW3
  have hz0 := heap_setCell_self HY0.out 2 (.int .i64 (s % 16 - 1))
  have hz1 := (Below.heap_setCell W2 ⟨w.heap.size, 2, none⟩ (.int .i64 (s % 16 - 1)) (w.heap.size + 1) (by simp)).trans HY1.out
  have k3 : Keeps [] w W3 := by rw [hW3]; exact K2.out.setCell' (p := ⟨w.heap.size, 2, none⟩) (Or.inl (Nat.le_refl _)) _
  rw [← hW3] at hz0 hz1
  have K3 := Lib.hid k3
  clear m2 f2 hW3 k3
  have m0 := cell_of_block hz0 0
  have m1 := cell_of_block hz0 1
  have m2 := cell_of_block hz0 2
  have r0 := cell_of_block hz1 0
  have r1 := cell_of_block hz1 1
  have r2 := cell_of_block hz1 2
  have f0 := free_of_block hz1 0
  have f1 := free_of_block hz1 1
  have f2 := free_of_block hz1 2
  simp at m0 m1 m2 r0 r1 r2
  clear hz0 hz1
  go_wp2_with fail
  refine bodyPost_ret (v := .agg #[.int .i64 (c % 8), .bool k, .int .i64 (s % 16 - 1)]) (by simp [results, Tryd.results18, go_sem, r0, r1, r2]) rfl ⟨rfl, ?_⟩
  exact store3_keeps K3.out (Nat.le_succ _)
end Go.Proofs.YtkmhekfpfmhebaaDoor
