/-
  The walk of CookieMakes. Condition: the table of classes reads as laid; numbers are in the ranges of their kinds.
-/
import Derived.Test.YtkmhekfpfmhebaaDoorCookieA
namespace Go.Proofs.YtkmhekfpfmhebaaDoor
open Go.RowKit

def shakeV (key : Int) (t : Tup) (cl tick : Int) : Value := .agg #[.int .u64 key, .int .u8 t.p, .int .u32 t.a, .int .u32 t.b, .int .u16 t.c, .int .u16 t.d, .int .u32 cl, .int .u64 tick]

set_option maxHeartbeats 4000000 in
theorem rsize_all (w : World) (c : Int) :
    Calls Tryd.prog 12 #[.int .i64 c] w fun e w' => e = .returned (.tuple #[.int .u16 (szI c), .int .i64 (szE c)]) ∧ w = w' := by
  by_cases h : 0 ≤ c ∧ c ≤ 7
  · have h1 : szI c = tab.getD c.toNat 0 := by unfold szI; rw [if_pos h]
    have h2 : szE c = 0 := by unfold szE; rw [if_pos h]
    rw [h1, h2]
    exact rsize_any w c h.1 h.2
  · have h1 : szI c = 0 := by unfold szI; rw [if_neg h]
    have h2 : szE c = 1 := by unfold szE; rw [if_neg h]
    rw [h1, h2]
    have n0 : (c == 0) = false := by simp; omega
    have n1 : (c == 1) = false := by simp; omega
    have n2 : (c == 2) = false := by simp; omega
    have n3 : (c == 3) = false := by simp; omega
    have n4 : (c == 4) = false := by simp; omega
    have n5 : (c == 5) = false := by simp; omega
    have n6 : (c == 6) = false := by simp; omega
    have n7 : (c == 7) = false := by simp; omega
    clear h h1 h2
    go_enter Tryd.func12, Tryd.ntmps12
    go_wp2_with fail
    go_ret2
    exact ⟨rfl, rfl⟩

set_option maxHeartbeats 4000000 in
theorem makes_walk (w : World) (hL : Laid w) (key : Int) (t : Tup) (cl tick : Int) (x : Inf) (m : Int) (hk : U64 key) (ht : t.Ok) (hc0 : 0 ≤ cl) (hc1 : cl ≤ 4294967295) (he0 : 0 ≤ tick) (he1 : tick ≤ 18446744073709551615) (hx : x.In) (m0 : 0 ≤ m) (m1 : m ≤ 65535) :
    Calls Tryd.prog 3 #[shakeV key t cl tick, infV x, .int .u16 m] w fun e w' => e = .returned (.bool true) ∧ Keeps [] w w' := by
  have HL := Lib.hid hL
  have HK := Lib.hid hk
  have HT := Lib.hid ht
  have HXI := Lib.hid hx
  obtain ⟨c, k, s⟩ := x
  obtain ⟨x0, x1, x2, x3⟩ := hx
  obtain ⟨tp, ta, tb, tc, td⟩ := t
  simp only at x0 x1 x2 x3
  clear hk hL ht
  unfold shakeV infV
  go_enter Tryd.func3, Tryd.ntmps3
  go_upto_region 1 with fail
  refine wp_gn (fun W1 hW1 => ?_)
  have kW : Keeps [] w W1 := by rw [hW1]; exact ((Keeps.refl _ _).alloc' _).alloc' _
  have ⟨hx0, hx1⟩ := two_allocs w (.cells #[.int .u64 key, .int .u8 tp, .int .u32 ta, .int .u32 tb, .int .u16 tc, .int .u16 td, .int .u32 cl, .int .u64 tick] 28) (.cells #[.int .i64 c, .bool k, .int .i64 s] 30)
  rw [← hW1] at hx0 hx1
  have q0 := cell_of_block hx0 0
  have q1 := cell_of_block hx0 1
  have q2 := cell_of_block hx0 2
  have q3 := cell_of_block hx0 3
  have q4 := cell_of_block hx0 4
  have q5 := cell_of_block hx0 5
  have q6 := cell_of_block hx0 6
  have q7 := cell_of_block hx0 7
  have r0 := cell_of_block hx1 0
  have r1 := cell_of_block hx1 1
  have r2 := cell_of_block hx1 2
  simp at q0 q1 q2 q3 q4 q5 q6 q7 r0 r1 r2
  have KW := Lib.hid kW
  clear kW hx0 hx1 hW1
  have L1 := Lib.hid (HL.out.keep KW.out)
  go_wp2_with fail
  refine (class_any _ L1.out m m0 m1).mono ?_
  rintro e w1 ⟨rfl, rfl⟩
  go_wp2_with fail
  refine (rclass_any _ m).mono ?_
  rintro e w1 ⟨rfl, rfl⟩
  generalize clsI m = a at *
  generalize clsB m = is at *
  go_wp2_with fail
  refine (size_any _ L1.out c x0 x1).mono ?_
  rintro e w1 ⟨rfl, rfl⟩
  go_wp2_with fail
  refine (rsize_all _ c).mono ?_
  rintro e w1 ⟨rfl, rfl⟩
  generalize szI c = n at *
  generalize szE c = e1 at *
  go_wp2_with fail
  refine (make_any _ L1.out key ⟨tp, ta, tb, tc, td⟩ cl tick ⟨c, k, s⟩ HK.out HT.out hc0 hc1 he0 he1 HXI.out).mono ?_
  rintro e w2 ⟨rfl, k2⟩
  have p0 := keeps_cell k2 q0
  have p1 := keeps_cell k2 q1
  have p2 := keeps_cell k2 q2
  have p3 := keeps_cell k2 q3
  have p4 := keeps_cell k2 q4
  have p5 := keeps_cell k2 q5
  have p6 := keeps_cell k2 q6
  have p7 := keeps_cell k2 q7
  have s0 := keeps_cell k2 r0
  have s1 := keeps_cell k2 r1
  have s2 := keeps_cell k2 r2
  have K2 := Lib.hid k2
  clear k2 q0 q1 q2 q3 q4 q5 q6 q7 r0 r1 r2
  go_wp2_with fail
  refine (rmake_any _ key ⟨tp, ta, tb, tc, td⟩ cl tick ⟨c, k, s⟩ HK.out HT.out hc0 hc1 he0 he1 HXI.out).mono ?_
  rintro e w3 ⟨rfl, k3⟩
  generalize makeC key ⟨tp, ta, tb, tc, td⟩ cl tick ⟨c, k, s⟩ = d at *
  generalize makeE ⟨c, k, s⟩ = e2 at *
  have q0 := keeps_cell k3 p0
  have q1 := keeps_cell k3 p1
  have q2 := keeps_cell k3 p2
  have q3 := keeps_cell k3 p3
  have q4 := keeps_cell k3 p4
  have q5 := keeps_cell k3 p5
  have q6 := keeps_cell k3 p6
  have q7 := keeps_cell k3 p7
  have K3 := Lib.hid (KW.out.trans (K2.out.trans k3))
  clear k3 p0 p1 p2 p3 p4 p5 p6 p7 s0 s1 s2
  have L3 := Lib.hid (HL.out.keep K3.out)
  go_upto_region 7 with fail
  go_region_held3 (fun w' => Keeps [] w3 w' ∧ w'.cell? ⟨w.heap.size, 0, none⟩ = some (.int .u64 key) ∧ w'.cell? ⟨w.heap.size, 1, none⟩ = some (.int .u8 tp) ∧ w'.cell? ⟨w.heap.size, 2, none⟩ = some (.int .u32 ta) ∧ w'.cell? ⟨w.heap.size, 3, none⟩ = some (.int .u32 tb) ∧ w'.cell? ⟨w.heap.size, 4, none⟩ = some (.int .u16 tc) ∧ w'.cell? ⟨w.heap.size, 5, none⟩ = some (.int .u16 td) ∧ w'.cell? ⟨w.heap.size, 6, none⟩ = some (.int .u32 cl) ∧ w'.cell? ⟨w.heap.size, 7, none⟩ = some (.int .u64 tick)) ((repeat' apply And.intro) <;> first | assumption | exact Keeps.drew _ _ | go_keep) (first
    | (go_at_call 15; refine (awake_any _ (L3.out.keep (by first | assumption | exact Keeps.drew _ _))).mono ?_; rintro e w9 ⟨rfl, k9⟩; have kw := Keeps.trans (a := w3) (by first | assumption | exact Keeps.drew _ _) k9; have d0 := keeps_cell kw q0; have d1 := keeps_cell kw q1; have d2 := keeps_cell kw q2; have d3 := keeps_cell kw q3; have d4 := keeps_cell kw q4; have d5 := keeps_cell kw q5; have d6 := keeps_cell kw q6; have d7 := keeps_cell kw q7)
    | (go_at_call 16; refine (hash_any _ _ ⟨tp, ta, tb, tc, td⟩ _ _ HK.out HT.out hc0 hc1 he0 he1).mono ?_; rintro e w9 ⟨rfl, k9⟩; have kw := Keeps.trans (a := w3) (by first | assumption | exact Keeps.drew _ _) k9; have d0 := keeps_cell kw q0; have d1 := keeps_cell kw q1; have d2 := keeps_cell kw q2; have d3 := keeps_cell kw q3; have d4 := keeps_cell kw q4; have d5 := keeps_cell kw q5; have d6 := keeps_cell kw q6; have d7 := keeps_cell kw q7)
    | (go_at_call 17; refine (rhash_any _ _ ⟨tp, ta, tb, tc, td⟩ _ _ HK.out HT.out hc0 hc1 he0 he1).mono ?_; rintro e w9 ⟨rfl, k9⟩; have kw := Keeps.trans (a := w3) (by first | assumption | exact Keeps.drew _ _) k9; have d0 := keeps_cell kw q0; have d1 := keeps_cell kw q1; have d2 := keeps_cell kw q2; have d3 := keeps_cell kw q3; have d4 := keeps_cell kw q4; have d5 := keeps_cell kw q5; have d6 := keeps_cell kw q6; have d7 := keeps_cell kw q7))
  all_goals go_wp2_with fail
  all_goals go_ret
  all_goals exact ⟨by simp, K3.out.trans (by assumption)⟩
end Go.Proofs.YtkmhekfpfmhebaaDoor
