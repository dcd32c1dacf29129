/-
  The walk of CookieEpochs. Condition: the table of classes reads as laid; numbers are in the ranges of their kinds.
-/
import Derived.Test.YtkmhekfpfmhebaaDoorCookieO
import Derived.Test.YtkmhekfpfmhebaaDoorCookieMay
namespace Go.Proofs.YtkmhekfpfmhebaaDoor
open Go.RowKit

theorem makeC_high {key : Int} {t : Tup} {cl tick : Int} {x : Inf} (hk : U64 key) (hx : x.Ok) : makeC key t cl tick x / 256 = hashOf key t cl (tick / 64) / 1099511627776 := by
  obtain ⟨h0, h1⟩ := hashOf_bd hk t cl (tick / 64)
  unfold makeC
  rw [if_pos hx]
  have : 0 ≤ says x ∧ says x < 256 := by
    obtain ⟨⟨a, b⟩, c, d⟩ := hx
    unfold says
    (repeat' split) <;> omega
  unfold topOf
  omega
theorem makeE_ok {x : Inf} (hx : x.Ok) : makeE x = 0 := by unfold makeE; rw [if_pos hx]

set_option maxHeartbeats 4000000 in
theorem epochs_walk (w : World) (hL : Laid w) (key : Int) (t : Tup) (cl tick : Int) (x : Inf) (m : Int) (hk : U64 key) (ht : t.Ok) (hc0 : 0 ≤ cl) (hc1 : cl ≤ 4294967295) (he0 : 0 ≤ tick) (he1 : tick ≤ 18446744073709551615) (hx : x.In) (m0 : 0 ≤ m) (m1 : m ≤ 255) :
    Calls Tryd.prog 5 #[.agg #[.int .u64 key, .int .u8 t.p, .int .u32 t.a, .int .u32 t.b, .int .u16 t.c, .int .u16 t.d, .int .u32 cl, .int .u64 tick], infV x, .int .u8 m] w fun e w' => e = .returned (.bool true) ∧ Keeps [] w w' := by
  have HL := Lib.hid hL
  have HK := Lib.hid hk
  have HT := Lib.hid ht
  have HM := Lib.hid (fun W => may_any W x hx)
  have hok := mayI_ok x
  have hin := mayI_in x
  generalize mayI x = y at *
  obtain ⟨c, k, s⟩ := x
  obtain ⟨yc, yk, ys⟩ := y
  obtain ⟨tp, ta, tb, tc, td⟩ := t
  have HOK := Lib.hid hok
  have HIN := Lib.hid hin
  clear hk hL ht hx hok hin
  simp only at *
  unfold infV
  go_enter Tryd.func5, Tryd.ntmps5
  go_upto_region 1 with fail
  refine wp_gn (fun W1 hW1 => ?_)
  have kW : Keeps [] w W1 := by rw [hW1]; exact ((Keeps.refl _ _).alloc' _).alloc' _
  have ⟨hx0, hx1⟩ := two_allocs w (.cells #[.int .u64 key, .int .u8 tp, .int .u32 ta, .int .u32 tb, .int .u16 tc, .int .u16 td, .int .u32 cl, .int .u64 tick] 28) (.cells #[.int .i64 c, .bool k, .int .i64 s] 30)
  rw [← hW1] at hx0 hx1
  have z1 : W1.heap.size = w.heap.size + 2 := by rw [hW1]; simp
  have q7 := cell_of_block hx0 7
  have f7 := free_of_block hx0 7
  simp at q7
  have HX0 := Lib.hid hx0
  have HX1 := Lib.hid hx1
  have KW := Lib.hid kW
  clear kW hx0 hx1 hW1
  go_upto_region 2 with fail
  refine wp_gn (fun W2 hW2 => ?_)
  have hy0 := heap_setCell_self HX0.out 7 (.int .u64 (tick % 1099511627776))
  have hy1 := (Below.heap_setCell W1 ⟨w.heap.size, 7, none⟩ (.int .u64 (tick % 1099511627776)) (w.heap.size + 1) (by simp)).trans HX1.out
  have k2 : Keeps [] w W2 := by rw [hW2]; exact KW.out.setCell' (p := ⟨w.heap.size, 7, none⟩) (Or.inl (Nat.le_refl _)) _
  have z2 : W2.heap.size = w.heap.size + 2 := by rw [hW2]; simp [World.setCell, z1]
  rw [← hW2] at hy0 hy1
  simp at hy0
  have t0 : 0 ≤ tick % 1099511627776 := by omega
  have t1 : tick % 1099511627776 < 1099511627776 := by omega
  generalize tick % 1099511627776 = tk at *
  have HY0 := Lib.hid hy0
  have HY1 := Lib.hid hy1
  have K2 := Lib.hid k2
  have Z2 := Lib.hid z2
  have L2 := Lib.hid (HL.out.keep K2.out)
  clear q7 f7 hW2 hy0 hy1 k2 z1 z2
  have r0 := cell_of_block HY1.out 0
  have r1 := cell_of_block HY1.out 1
  have r2 := cell_of_block HY1.out 2
  have f0 := free_of_block HY1.out 0
  have f1 := free_of_block HY1.out 1
  have f2 := free_of_block HY1.out 2
  simp at r0 r1 r2
  go_wp2_with fail
  refine (HM.out _).mono ?_
  rintro e w3 ⟨rfl, k3⟩
  have g0 := (k3.block w.heap.size (by rw [Z2.out]; omega) (by simp)).trans HY0.out
  have g1 := (k3.block (w.heap.size + 1) (by rw [Z2.out]; omega) (by simp)).trans HY1.out
  have G0 := Lib.hid g0
  have G1 := Lib.hid g1
  have K3 := Lib.hid (K2.out.trans k3)
  clear r0 r1 r2 f0 f1 f2 k3 g0 g1
  have r0 := cell_of_block G1.out 0
  have r1 := cell_of_block G1.out 1
  have r2 := cell_of_block G1.out 2
  have f0 := free_of_block G1.out 0
  have f1 := free_of_block G1.out 1
  have f2 := free_of_block G1.out 2
  simp at r0 r1 r2
  unfold infV
  go_upto_region 3 with fail
  refine wp_gn (fun W4 hW4 => ?_)
  have hz1 := store3 (v0 := .int .i64 yc) (v1 := .bool yk) (v2 := .int .i64 ys) G1.out
  have hz0 := (store3_other (W := w3) (b := w.heap.size + 1) (c := w.heap.size) (v0 := .int .i64 yc) (v1 := .bool yk) (v2 := .int .i64 ys) (by omega)).trans G0.out
  have k4 : Keeps [] w W4 := by rw [hW4]; exact store3_keeps K3.out (Nat.le_succ _)
  rw [← hW4] at hz0 hz1
  have HZ0 := Lib.hid hz0
  have HZ1 := Lib.hid hz1
  have K4 := Lib.hid k4
  have L4 := Lib.hid (HL.out.keep K4.out)
  clear r0 r1 r2 f0 f1 f2 hz0 hz1 k4 hW4
  have q0 := cell_of_block HZ0.out 0
  have q1 := cell_of_block HZ0.out 1
  have q2 := cell_of_block HZ0.out 2
  have q3 := cell_of_block HZ0.out 3
  have q4 := cell_of_block HZ0.out 4
  have q5 := cell_of_block HZ0.out 5
  have q6 := cell_of_block HZ0.out 6
  have q7 := cell_of_block HZ0.out 7
  have r0 := cell_of_block HZ1.out 0
  have r1 := cell_of_block HZ1.out 1
  have r2 := cell_of_block HZ1.out 2
  simp at q0 q1 q2 q3 q4 q5 q6 q7 r0 r1 r2
  go_wp2_with fail
  refine (make_any _ L4.out key ⟨tp, ta, tb, tc, td⟩ cl tk ⟨yc, yk, ys⟩ HK.out HT.out hc0 hc1 (by omega) (by omega) HIN.out).mono ?_
  rintro e w5 ⟨rfl, k5⟩
  have p0 := keeps_cell k5 q0
  have p1 := keeps_cell k5 q1
  have p2 := keeps_cell k5 q2
  have p3 := keeps_cell k5 q3
  have p4 := keeps_cell k5 q4
  have p5 := keeps_cell k5 q5
  have p6 := keeps_cell k5 q6
  have p7 := keeps_cell k5 q7
  have s0 := keeps_cell k5 r0
  have s1 := keeps_cell k5 r1
  have s2 := keeps_cell k5 r2
  have K5 := Lib.hid (K4.out.trans k5)
  have L5 := Lib.hid (HL.out.keep K5.out)
  clear q0 q1 q2 q3 q4 q5 q6 q7 r0 r1 r2 k5
  have u0 : 0 ≤ tk / 64 := by omega
  have u1 : tk / 64 ≤ 17179869184 := by omega
  go_wp2_with fail
  refine (make_any _ L5.out key ⟨tp, ta, tb, tc, td⟩ cl (tk / 64 * 64 + m % 64) ⟨yc, yk, ys⟩ HK.out HT.out hc0 hc1 (by omega) (by omega) HIN.out).mono ?_
  rintro e w6 ⟨rfl, k6⟩
  have q0 := keeps_cell k6 p0
  have q1 := keeps_cell k6 p1
  have q2 := keeps_cell k6 p2
  have q3 := keeps_cell k6 p3
  have q4 := keeps_cell k6 p4
  have q5 := keeps_cell k6 p5
  have q6 := keeps_cell k6 p6
  have q7 := keeps_cell k6 p7
  have K6 := Lib.hid (K5.out.trans k6)
  have L6 := Lib.hid (HL.out.keep K6.out)
  clear p0 p1 p2 p3 p4 p5 p6 p7 s0 s1 s2 k6
  have hsame : makeC key ⟨tp, ta, tb, tc, td⟩ cl (tk / 64 * 64 + m % 64) ⟨yc, yk, ys⟩ = makeC key ⟨tp, ta, tb, tc, td⟩ cl tk ⟨yc, yk, ys⟩ := by
    unfold makeC
    rw [show (tk / 64 * 64 + m % 64) / 64 = tk / 64 by omega]
  rw [hsame, makeE_ok HOK.out]
  have hhi := makeC_high (key := key) (t := ⟨tp, ta, tb, tc, td⟩) (cl := cl) (tick := tk) HK.out HOK.out
  have hcb := makeC_bd (t := ⟨tp, ta, tb, tc, td⟩) (cl := cl) (tick := tk) (x := ⟨yc, yk, ys⟩) HK.out
  generalize makeC key ⟨tp, ta, tb, tc, td⟩ cl tk ⟨yc, yk, ys⟩ = n at *
  obtain ⟨n0, n1⟩ := hcb
  have hhb := hashOf_bd HK.out ⟨tp, ta, tb, tc, td⟩ cl (tk / 64)
  have HHI := Lib.hid hhi
  have HHB := Lib.hid hhb
  clear hsame hhi hhb
  go_wp2_with fail
  refine (hash_any _ key ⟨tp, ta, tb, tc, td⟩ cl (tk / 64) HK.out HT.out hc0 hc1 (by omega) (by omega)).mono ?_
  rintro e w7 ⟨rfl, k7⟩
  have K7 := Lib.hid (K6.out.trans k7)
  have L7 := Lib.hid (HL.out.keep K7.out)
  clear q0 q1 q2 q3 q4 q5 q6 q7 k7
  have hhi := HHI.out
  obtain ⟨h0, h1⟩ := HHB.out
  generalize hashOf key ⟨tp, ta, tb, tc, td⟩ cl (tk / 64) = h at *
  have hb : (n / 256 == h / 1099511627776) = true := by simp [hhi]
  clear hhi
  go_wp2_with fail
  refine (awake_any _ L7.out).mono ?_
  rintro e w8 ⟨rfl, k8⟩
  have K8 := Lib.hid (K7.out.trans k8)
  clear k8
  go_wp2_with fail
  go_ret
  exact ⟨by simp, K8.out⟩
end Go.Proofs.YtkmhekfpfmhebaaDoor
