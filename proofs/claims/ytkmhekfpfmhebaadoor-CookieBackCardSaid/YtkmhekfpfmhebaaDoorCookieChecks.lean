/-
  The walk of CookieChecks. Condition: the table of classes reads as laid; numbers are in the ranges of their kinds.
-/
import Derived.Test.YtkmhekfpfmhebaaDoorCookieO
import Derived.Test.YtkmhekfpfmhebaaDoorCookieMay
namespace Go.Proofs.YtkmhekfpfmhebaaDoor
open Go.RowKit

theorem three_allocs (w : World) (o1 o2 o3 : Obj) : (((w.alloc o1).alloc o2).alloc o3).heap[w.heap.size]? = some o1 ∧ (((w.alloc o1).alloc o2).alloc o3).heap[w.heap.size + 1]? = some o2 ∧ (((w.alloc o1).alloc o2).alloc o3).heap[w.heap.size + 2]? = some o3 := by
  obtain ⟨a1, a2⟩ := two_allocs w o1 o2
  have e : ((w.alloc o1).alloc o2).heap.size = w.heap.size + 2 := by simp
  have a3 := (MapKept.heap_alloc ((w.alloc o1).alloc o2) o3).1
  rw [e] at a3
  exact ⟨(Below.heap_alloc _ _ _ (by rw [e]; omega)).trans a1, (Below.heap_alloc _ _ _ (by rw [e]; omega)).trans a2, a3⟩

set_option maxHeartbeats 4000000 in
theorem checks_walk (w : World) (hL : Laid w) (key : Int) (t : Tup) (cl tick : Int) (x : Inf) (num turn beh : Int) (hk : U64 key) (ht : t.Ok) (hc0 : 0 ≤ cl) (hc1 : cl ≤ 4294967295) (he0 : 0 ≤ tick) (he1 : tick ≤ 18446744073709551615) (hx : x.In) (n0 : 0 ≤ num) (n1 : num ≤ 4294967295) (t0 : 0 ≤ turn) (t1 : turn ≤ 4294967295) :
    Calls Tryd.prog 7 #[.agg #[.int .u64 key, .int .u8 t.p, .int .u32 t.a, .int .u32 t.b, .int .u16 t.c, .int .u16 t.d, .int .u32 cl, .int .u64 tick], infV x, .agg #[.int .u32 num, .int .u32 turn, .int .u64 beh]] w fun e w' => e = .returned (.bool true) ∧ Keeps [] w w' := by
  have HL := Lib.hid hL
  have HK := Lib.hid hk
  have HT := Lib.hid ht
  have HX := Lib.hid hx
  obtain ⟨c, k, s⟩ := x
  obtain ⟨tp, ta, tb, tc, td⟩ := t
  clear hk hL ht hx
  simp only at *
  unfold infV
  go_enter Tryd.func7, Tryd.ntmps7
  go_upto_region 1 with fail
  rw [show w.heap.size + 1 + 1 = w.heap.size + 2 from rfl]
  refine wp_gn (fun W1 hW1 => ?_)
  have kW : Keeps [] w W1 := by rw [hW1]; exact (((Keeps.refl _ _).alloc' _).alloc' _).alloc' _
  have ⟨hx0, hx1, hx2⟩ := three_allocs w (.cells #[.int .u64 key, .int .u8 tp, .int .u32 ta, .int .u32 tb, .int .u16 tc, .int .u16 td, .int .u32 cl, .int .u64 tick] 28) (.cells #[.int .i64 c, .bool k, .int .i64 s] 30) (.cells #[.int .u32 num, .int .u32 turn, .int .u64 beh] 51)
  rw [← hW1] at hx0 hx1 hx2
  have z1 : W1.heap.size = w.heap.size + 3 := by rw [hW1]; simp
  have q0 := cell_of_block hx0 0
  have q1 := cell_of_block hx0 1
  have q2 := cell_of_block hx0 2
  have q3 := cell_of_block hx0 3
  have q4 := cell_of_block hx0 4
  have q5 := cell_of_block hx0 5
  have q6 := cell_of_block hx0 6
  have q7 := cell_of_block hx0 7
  have v0 := cell_of_block hx2 0
  simp at q0 q1 q2 q3 q4 q5 q6 q7 v0
  have X0 := Lib.hid hx0
  have X1 := Lib.hid hx1
  have X2 := Lib.hid hx2
  have KW := Lib.hid kW
  have Z1 := Lib.hid z1
  clear kW hx0 hx1 hx2 hW1 z1
  go_wp2_with fail
  refine (check_any _ key ⟨tp, ta, tb, tc, td⟩ cl tick num HK.out HT.out hc0 hc1 he0 he1 n0 n1).mono ?_
  rintro e w2 ⟨rfl, k2⟩
  have K2 := Lib.hid k2
  clear q0 q1 q2 q3 q4 q5 q6 q7 v0 k2
  unfold infV
  generalize hy : checkI key ⟨tp, ta, tb, tc, td⟩ cl tick num = y
  obtain ⟨yc, yk, ys⟩ := y
  go_upto_region 2 with fail
  refine wp_gn (fun W3 hW3 => ?_)
  have y0 := (MapKept.heap_alloc w2 (.cells #[.int .i64 yc, .bool yk, .int .i64 ys] 30)).1
  have k3 : Keeps [] W1 W3 := by rw [hW3]; exact K2.out.alloc' _
  rw [← hW3] at y0
  have hz2 : w.heap.size + 3 ≤ w2.heap.size := by have := K2.out.size; rw [Z1.out] at this; exact this
  have HZ2 := Lib.hid hz2
  have z3 : W3.heap.size = w2.heap.size + 1 := by rw [hW3]; simp
  have Y0 := Lib.hid y0
  have K3 := Lib.hid k3
  have Z3 := Lib.hid z3
  have HY := Lib.hid hy
  clear y0 k3 hW3 hz2 z3 hy
  have q0 := keeps_cell K3.out (cell_of_block X0.out 0)
  have q1 := keeps_cell K3.out (cell_of_block X0.out 1)
  have q2 := keeps_cell K3.out (cell_of_block X0.out 2)
  have q3 := keeps_cell K3.out (cell_of_block X0.out 3)
  have q4 := keeps_cell K3.out (cell_of_block X0.out 4)
  have q5 := keeps_cell K3.out (cell_of_block X0.out 5)
  have q6 := keeps_cell K3.out (cell_of_block X0.out 6)
  have q7 := keeps_cell K3.out (cell_of_block X0.out 7)
  have v0 := keeps_cell K3.out (cell_of_block X2.out 0)
  go_wp2_with fail
  refine (rcheck_any _ key ⟨tp, ta, tb, tc, td⟩ cl tick num HK.out HT.out hc0 hc1 he0 he1 n0 n1).mono ?_
  rintro e w4 ⟨rfl, k4⟩
  rw [HY.out]
  generalize checkE key ⟨tp, ta, tb, tc, td⟩ cl tick num = ye at *
  have K4 := Lib.hid (K3.out.trans k4)
  have y4 := (k4.block w2.heap.size (by rw [Z3.out]; omega) (by simp)).trans Y0.out
  have Y4 := Lib.hid y4
  have hz4 : w2.heap.size + 1 ≤ w4.heap.size := by have := k4.size; rw [Z3.out] at this; exact this
  have Z4 := Lib.hid hz4
  clear q0 q1 q2 q3 q4 q5 q6 q7 v0 k4 y4 hz4
  unfold infV
  go_upto_region 3 with fail
  refine wp_gn (fun W5 hW5 => ?_)
  have a0 := (Below.heap_alloc w4 (.cells #[.int .i64 yc, .bool yk, .int .i64 ys] 42) w2.heap.size (by have := Z4.out; omega)).trans Y4.out
  have a1 := (MapKept.heap_alloc w4 (.cells #[.int .i64 yc, .bool yk, .int .i64 ys] 42)).1
  have k5 : Keeps [] W1 W5 := by rw [hW5]; exact K4.out.alloc' _
  have z5 : W5.heap.size = w4.heap.size + 1 := by rw [hW5]; simp
  rw [← hW5] at a0 a1
  have A0 := Lib.hid a0
  have A1 := Lib.hid a1
  have K5 := Lib.hid k5
  have Z5 := Lib.hid z5
  have L5 := Lib.hid (HL.out.keep (KW.out.trans K5.out))
  clear a0 a1 k5 hW5 z5
  have m0 := cell_of_block A0.out 0
  have m1 := cell_of_block A0.out 1
  have m2 := cell_of_block A0.out 2
  have l0 := cell_of_block A1.out 0
  have l1 := cell_of_block A1.out 1
  have l2 := cell_of_block A1.out 2
  simp at m0 m1 m2 l0 l1 l2
  go_upto_region 5 with fail
  clear m0 m1 m2 l0 l1 l2
  have q0 := keeps_cell K5.out (cell_of_block X0.out 0)
  have q1 := keeps_cell K5.out (cell_of_block X0.out 1)
  have q2 := keeps_cell K5.out (cell_of_block X0.out 2)
  have q3 := keeps_cell K5.out (cell_of_block X0.out 3)
  have q4 := keeps_cell K5.out (cell_of_block X0.out 4)
  have q5 := keeps_cell K5.out (cell_of_block X0.out 5)
  have q6 := keeps_cell K5.out (cell_of_block X0.out 6)
  have q7 := keeps_cell K5.out (cell_of_block X0.out 7)
  have r0 := keeps_cell K5.out (cell_of_block X1.out 0)
  have r1 := keeps_cell K5.out (cell_of_block X1.out 1)
  have r2 := keeps_cell K5.out (cell_of_block X1.out 2)
  go_wp2_with fail
  refine (make_any _ L5.out key ⟨tp, ta, tb, tc, td⟩ cl tick ⟨c, k, s⟩ HK.out HT.out hc0 hc1 he0 he1 HX.out).mono ?_
  rintro e w6 ⟨rfl, k6⟩
  have hcb := makeC_bd (t := ⟨tp, ta, tb, tc, td⟩) (cl := cl) (tick := tick) (x := ⟨c, k, s⟩) HK.out
  generalize makeC key ⟨tp, ta, tb, tc, td⟩ cl tick ⟨c, k, s⟩ = n at *
  generalize makeE ⟨c, k, s⟩ = ne at *
  obtain ⟨g0, g1⟩ := hcb
  have K6 := Lib.hid (K5.out.trans k6)
  have b0' := (k6.block w2.heap.size (by rw [Z5.out]; have := Z4.out; omega) (by simp)).trans A0.out
  have b1' := (k6.block w4.heap.size (by rw [Z5.out]; omega) (by simp)).trans A1.out
  have B0 := Lib.hid b0'
  have B1 := Lib.hid b1'
  have hz6 : w4.heap.size + 1 ≤ w6.heap.size := by have := k6.size; rw [Z5.out] at this; exact this
  have Z6 := Lib.hid hz6
  clear q0 q1 q2 q3 q4 q5 q6 q7 r0 r1 r2 k6 b0' b1' hz6
  have q0 := keeps_cell K6.out (cell_of_block X0.out 0)
  have q1 := keeps_cell K6.out (cell_of_block X0.out 1)
  have q2 := keeps_cell K6.out (cell_of_block X0.out 2)
  have q3 := keeps_cell K6.out (cell_of_block X0.out 3)
  have q4 := keeps_cell K6.out (cell_of_block X0.out 4)
  have q5 := keeps_cell K6.out (cell_of_block X0.out 5)
  have q6 := keeps_cell K6.out (cell_of_block X0.out 6)
  have q7 := keeps_cell K6.out (cell_of_block X0.out 7)
  have v0 := keeps_cell K6.out (cell_of_block X2.out 0)
  have v1 := keeps_cell K6.out (cell_of_block X2.out 1)
  have v2 := keeps_cell K6.out (cell_of_block X2.out 2)
  go_upto_region 7 with fail
  have hxb : U32 (bits .xor .u32 n turn) := by
    rw [u32_xor n turn g0 (by omega) t0 (by omega)]
    have h : n.toNat ^^^ turn.toNat < 2 ^ 32 := Nat.xor_lt_two_pow (by omega) (by omega)
    constructor <;> omega
  generalize bits .xor .u32 n turn = nt at *
  obtain ⟨nt0, nt1⟩ := hxb
  go_upto_region 8 with fail
  obtain ⟨th0, th1⟩ := wrap_bd (tick + beh)
  generalize IntKind.u64.wrap (tick + beh) = th at *
  go_wp2_with fail
  refine (check_any _ key ⟨tp, ta, tb, tc, td⟩ cl th nt HK.out HT.out hc0 hc1 th0 th1 nt0 nt1).mono ?_
  rintro e w7 ⟨rfl, k7⟩
  generalize hy2 : checkI key ⟨tp, ta, tb, tc, td⟩ cl th nt = z
  obtain ⟨zc, zk, zs⟩ := z
  have HY2 := Lib.hid hy2
  have K7 := Lib.hid (K6.out.trans k7)
  have b0' := (k7.block w2.heap.size (by have := Z6.out; have := Z4.out; omega) (by simp)).trans B0.out
  have b1' := (k7.block w4.heap.size (by have := Z6.out; omega) (by simp)).trans B1.out
  have C0 := Lib.hid b0'
  have C1 := Lib.hid b1'
  clear q0 q1 q2 q3 q4 q5 q6 q7 v0 v1 v2 k7 b0' b1' hy2
  unfold infV
  have m0 := cell_of_block C0.out 0
  have m1 := cell_of_block C0.out 1
  have m2 := cell_of_block C0.out 2
  have f0 := free_of_block C0.out 0
  have f1 := free_of_block C0.out 1
  have f2 := free_of_block C0.out 2
  simp at m0 m1 m2
  go_upto_region 9 with fail
  refine wp_gn (fun W8 hW8 => ?_)
  have hne : ¬ w4.heap.size = w2.heap.size := by have := Z4.out; omega
  have d0 := store3 (v0 := .int .i64 zc) (v1 := .bool zk) (v2 := .int .i64 zs) C0.out
  have d1 := (store3_other (W := w7) (b := w2.heap.size) (c := w4.heap.size) (v0 := .int .i64 zc) (v1 := .bool zk) (v2 := .int .i64 zs) hne).trans C1.out
  have k8 : Keeps [] W1 W8 := by rw [hW8]; exact store3_keeps K7.out (by have := HZ2.out; have := Z1.out; omega)
  rw [← hW8] at d0 d1
  have z8 : w4.heap.size + 1 ≤ W8.heap.size := by
    have h1 := Z6.out
    have h2 := (Array.getElem?_eq_some_iff.1 d1).1
    omega
  have D0 := Lib.hid d0
  have D1 := Lib.hid d1
  have K8 := Lib.hid k8
  have Z8 := Lib.hid z8
  clear m0 m1 m2 f0 f1 f2 d0 d1 k8 hW8 z8
  have q0 := keeps_cell K8.out (cell_of_block X0.out 0)
  have q1 := keeps_cell K8.out (cell_of_block X0.out 1)
  have q2 := keeps_cell K8.out (cell_of_block X0.out 2)
  have q3 := keeps_cell K8.out (cell_of_block X0.out 3)
  have q4 := keeps_cell K8.out (cell_of_block X0.out 4)
  have q5 := keeps_cell K8.out (cell_of_block X0.out 5)
  have q6 := keeps_cell K8.out (cell_of_block X0.out 6)
  have q7 := keeps_cell K8.out (cell_of_block X0.out 7)
  go_wp2_with fail
  refine (rcheck_any _ key ⟨tp, ta, tb, tc, td⟩ cl th nt HK.out HT.out hc0 hc1 th0 th1 nt0 nt1).mono ?_
  rintro e w9 ⟨rfl, k9⟩
  rw [HY2.out]
  generalize checkE key ⟨tp, ta, tb, tc, td⟩ cl th nt = ze at *
  have K9 := Lib.hid (K8.out.trans k9)
  have b0' := (k9.block w2.heap.size (by have := Z8.out; have := Z4.out; omega) (by simp)).trans D0.out
  have b1' := (k9.block w4.heap.size (by have := Z8.out; omega) (by simp)).trans D1.out
  have E0 := Lib.hid b0'
  have E1 := Lib.hid b1'
  clear q0 q1 q2 q3 q4 q5 q6 q7 k9 b0' b1'
  unfold infV
  have l0 := cell_of_block E1.out 0
  have l1 := cell_of_block E1.out 1
  have l2 := cell_of_block E1.out 2
  have f0 := free_of_block E1.out 0
  have f1 := free_of_block E1.out 1
  have f2 := free_of_block E1.out 2
  simp at l0 l1 l2
  go_upto_region 10 with fail
  refine wp_gn (fun W10 hW10 => ?_)
  have hne2 : ¬ w2.heap.size = w4.heap.size := by have := Z4.out; omega
  have d1 := store3 (v0 := .int .i64 zc) (v1 := .bool zk) (v2 := .int .i64 zs) E1.out
  have d0 := (store3_other (W := w9) (b := w4.heap.size) (c := w2.heap.size) (v0 := .int .i64 zc) (v1 := .bool zk) (v2 := .int .i64 zs) hne2).trans E0.out
  have k10 : Keeps [] W1 W10 := by rw [hW10]; exact store3_keeps K9.out (by have := HZ2.out; have := Z1.out; have := Z4.out; omega)
  rw [← hW10] at d0 d1
  have K10 := Lib.hid k10
  have L10 := Lib.hid (HL.out.keep (KW.out.trans K10.out))
  have m0 := cell_of_block d0 0
  have m1 := cell_of_block d0 1
  have m2 := cell_of_block d0 2
  clear l0 l1 l2 f0 f1 f2 k10 hW10
  have l0 := cell_of_block d1 0
  have l1 := cell_of_block d1 1
  have l2 := cell_of_block d1 2
  simp at m0 m1 m2 l0 l1 l2
  clear d0 d1
  go_wp2_with fail
  refine (awake_any _ L10.out).mono ?_
  rintro e w11 ⟨rfl, k11⟩
  have d0 := keeps_cell k11 m0
  have d1 := keeps_cell k11 m1
  have d2 := keeps_cell k11 m2
  have d3 := keeps_cell k11 l0
  have d4 := keeps_cell k11 l1
  have d5 := keeps_cell k11 l2
  have K11 := Lib.hid (KW.out.trans (K10.out.trans k11))
  clear m0 m1 m2 l0 l1 l2 k11
  go_wp2_with fail
  go_ret
  exact ⟨by simp, K11.out⟩
end Go.Proofs.YtkmhekfpfmhebaaDoor
