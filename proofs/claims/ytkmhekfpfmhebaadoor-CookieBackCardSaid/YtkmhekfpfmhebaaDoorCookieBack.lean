/-
  The walk of CookieBack. Condition: the table of classes reads as laid; numbers are in the ranges of their kinds.
-/
import Derived.Test.YtkmhekfpfmhebaaDoorCookieEpochs
import Derived.Test.YtkmhekfpfmhebaaDoorCookieTypedC
namespace Go.Proofs.YtkmhekfpfmhebaaDoor
open Go.RowKit

theorem says_bd {x : Inf} (hx : x.Ok) : 0 ≤ says x ∧ says x < 256 := by
  obtain ⟨⟨a, b⟩, c, d⟩ := hx
  unfold says
  (repeat' split) <;> omega
theorem told_ok (o : Int) : (told o).Ok := by
  unfold told Inf.Ok
  simp only
  split <;> omega
theorem told_in (o : Int) : (told o).In := by
  have := told_ok o
  unfold Inf.Ok at this
  constructor <;> omega
theorem says_told (o : Int) : says (told o) = o % 256 := by
  unfold says told
  simp only
  have h5 : (if (if o % 16 = 15 then (-1 : Int) else o % 16) < 0 then (15 : Int) else if o % 16 = 15 then -1 else o % 16) = o % 16 := by
    by_cases h : o % 16 = 15
    · rw [if_pos h, h]; rfl
    · rw [if_neg h, if_neg (by omega)]
  rw [h5]
  by_cases h1 : o / 16 % 2 = 1
  · have h2 : (o / 16 % 2 == 1) = true := by simp [h1]
    rw [h2, if_pos rfl]
    omega
  · have h2 : (o / 16 % 2 == 1) = false := by simpa using h1
    rw [h2, if_neg (by simp)]
    omega
theorem told_says {x : Inf} (hx : x.Ok) (q : Int) : told (q * 256 + says x) = x := by
  obtain ⟨c, k, s⟩ := x
  obtain ⟨⟨a, b⟩, d, e⟩ := hx
  simp only at a b d e
  unfold told says
  cases k with
  | true =>
    simp only [if_true]
    have h2 : (q * 256 + (c * 32 + 16 + if s < 0 then 15 else s)) / 32 % 8 = c := by split <;> omega
    have h3 : (q * 256 + (c * 32 + 16 + if s < 0 then 15 else s)) / 16 % 2 = 1 := by split <;> omega
    have h4 : (if (q * 256 + (c * 32 + 16 + if s < 0 then 15 else s)) % 16 = 15 then (-1 : Int) else (q * 256 + (c * 32 + 16 + if s < 0 then 15 else s)) % 16) = s := by (repeat' split) <;> omega
    rw [h2, h3, h4]
    rfl
  | false =>
    simp only [Bool.false_eq_true, if_false]
    have h2 : (q * 256 + (c * 32 + 0 + if s < 0 then 15 else s)) / 32 % 8 = c := by split <;> omega
    have h3 : (q * 256 + (c * 32 + 0 + if s < 0 then 15 else s)) / 16 % 2 = 0 := by split <;> omega
    have h4 : (if (q * 256 + (c * 32 + 0 + if s < 0 then 15 else s)) % 16 = 15 then (-1 : Int) else (q * 256 + (c * 32 + 0 + if s < 0 then 15 else s)) % 16) = s := by (repeat' split) <;> omega
    rw [h2, h3, h4]
    rfl
/-- A cookie of a tick is fresh at that tick, and up to 64 ticks behind it; whatever its lowest bits. -/
theorem fresh_of {key : Int} {t : Tup} {cl tk th ck : Int} (h0 : 0 ≤ tk) (h1 : tk ≤ th) (h2 : th ≤ tk + 64) (hc : ck / 256 * 256 = topOf (hashOf key t cl (tk / 64))) : fresh key t cl th ck = true := by
  unfold fresh
  rcases (by omega : th / 64 = tk / 64 ∨ th / 64 = tk / 64 + 1) with e | e
  · rw [e]
    have : isAt key t cl (tk / 64) ck = true := by unfold isAt; exact decide_eq_true hc.symm
    rw [this]; rfl
  · have h3 : th / 64 - 1 = tk / 64 := by omega
    rw [h3]
    have : isAt key t cl (tk / 64) ck = true := by unfold isAt; exact decide_eq_true hc.symm
    rw [this]
    have h4 : decide (th / 64 = 0) = false := decide_eq_false (by omega)
    rw [h4]; simp
theorem check_fresh {key : Int} {t : Tup} {cl th ck : Int} (h : fresh key t cl th ck = true) : checkI key t cl th ck = told ck ∧ checkE key t cl th ck = 0 := by
  unfold checkI checkE; rw [if_pos h, if_pos h]; exact ⟨rfl, rfl⟩
theorem make_ok {key : Int} {t : Tup} {cl tk : Int} {x : Inf} (hx : x.Ok) : makeC key t cl tk x = topOf (hashOf key t cl (tk / 64)) + says x := by unfold makeC; rw [if_pos hx]
theorem and255 {x : Int} (h0 : 0 ≤ x) (h1 : x ≤ 4294967295) : bits .and .u32 x 255 = x % 256 := by
  rw [u32_and x 255 h0 (by omega) (by omega) (by omega), show (255 : Int).toNat = 255 from rfl, nat_mask8]; omega
theorem andNot255 {x : Int} (h0 : 0 ≤ x) (h1 : x ≤ 4294967295) : bits .andNot .u32 x 255 = x / 256 * 256 := by
  rw [u32_andNot x 255 h0 (by omega) (by omega) (by omega), show (4294967295 - (255 : Int).toNat) = 4294967040 from rfl, nat_hi32_8]; omega

set_option maxHeartbeats 4000000 in
theorem back_walk (w : World) (hL : Laid w) (key : Int) (t : Tup) (cl tick : Int) (x : Inf) (num turn beh : Int) (hk : U64 key) (ht : t.Ok) (hc0 : 0 ≤ cl) (hc1 : cl ≤ 4294967295) (he0 : 0 ≤ tick) (hx : x.In) (n0 : 0 ≤ num) (n1 : num ≤ 4294967295) (b0 : 0 ≤ beh) (b1 : beh ≤ 18446744073709551615) :
    Calls Tryd.prog 8 #[.agg #[.int .u64 key, .int .u8 t.p, .int .u32 t.a, .int .u32 t.b, .int .u16 t.c, .int .u16 t.d, .int .u32 cl, .int .u64 tick], infV x, .agg #[.int .u32 num, .int .u32 turn, .int .u64 beh]] w fun e w' => e = .returned (.bool true) ∧ Keeps [] w w' := by
  have HL := Lib.hid hL
  have HK := Lib.hid hk
  have HT := Lib.hid ht
  have HM := Lib.hid (fun W => may_any W x hx)
  have hok := mayI_ok x
  have hin := mayI_in x
  generalize mayI x = y at *
  obtain ⟨c, k, s⟩ := x
  obtain ⟨yc, yk, ys⟩ := y
  obtain ⟨tp, ta, tb, tc, td⟩ := t
  have HOK := Lib.hid hok
  have HIN := Lib.hid hin
  clear hk hL ht hx hok hin
  simp only at *
  unfold infV
  go_enter Tryd.func8, Tryd.ntmps8
  go_upto_region 1 with fail
  rw [show w.heap.size + 1 + 1 = w.heap.size + 2 from rfl]
  refine wp_gn (fun W1 hW1 => ?_)
  have kW : Keeps [] w W1 := by rw [hW1]; exact (((Keeps.refl _ _).alloc' _).alloc' _).alloc' _
  have ⟨hx0, hx1, hx2⟩ := three_allocs w (.cells #[.int .u64 key, .int .u8 tp, .int .u32 ta, .int .u32 tb, .int .u16 tc, .int .u16 td, .int .u32 cl, .int .u64 tick] 28) (.cells #[.int .i64 c, .bool k, .int .i64 s] 30) (.cells #[.int .u32 num, .int .u32 turn, .int .u64 beh] 51)
  rw [← hW1] at hx0 hx1 hx2
  have z1 : W1.heap.size = w.heap.size + 3 := by rw [hW1]; simp
  have q7 := cell_of_block hx0 7
  have f7 := free_of_block hx0 7
  simp at q7
  have HX0 := Lib.hid hx0
  have HX1 := Lib.hid hx1
  have HX2 := Lib.hid hx2
  have KW := Lib.hid kW
  clear kW hx0 hx1 hx2 hW1
  go_upto_region 2 with fail
  refine wp_gn (fun W2 hW2 => ?_)
  have hy0 := heap_setCell_self HX0.out 7 (.int .u64 (tick % 1099511627776))
  have hy1 := (Below.heap_setCell W1 ⟨w.heap.size, 7, none⟩ (.int .u64 (tick % 1099511627776)) (w.heap.size + 1) (by simp)).trans HX1.out
  have hy2 := (Below.heap_setCell W1 ⟨w.heap.size, 7, none⟩ (.int .u64 (tick % 1099511627776)) (w.heap.size + 2) (by simp)).trans HX2.out
  have k2 : Keeps [] w W2 := by rw [hW2]; exact KW.out.setCell' (p := ⟨w.heap.size, 7, none⟩) (Or.inl (Nat.le_refl _)) _
  have z2 : W2.heap.size = w.heap.size + 3 := by rw [hW2]; simp [World.setCell, z1]
  rw [← hW2] at hy0 hy1 hy2
  simp at hy0
  have t0 : 0 ≤ tick % 1099511627776 := by omega
  have t1 : tick % 1099511627776 < 1099511627776 := by omega
  generalize tick % 1099511627776 = tk at *
  have HY0 := Lib.hid hy0
  have HY2 := Lib.hid hy2
  have HY1 := Lib.hid hy1
  have K2 := Lib.hid k2
  have Z2 := Lib.hid z2
  have L2 := Lib.hid (HL.out.keep K2.out)
  clear q7 f7 hW2 hy0 hy1 hy2 k2 z1 z2
  have r0 := cell_of_block HY1.out 0
  have r1 := cell_of_block HY1.out 1
  have r2 := cell_of_block HY1.out 2
  have f0 := free_of_block HY1.out 0
  have f1 := free_of_block HY1.out 1
  have f2 := free_of_block HY1.out 2
  simp at r0 r1 r2
  go_wp2_with fail
  refine (HM.out _).mono ?_
  rintro e w3 ⟨rfl, k3⟩
  have g0 := (k3.block w.heap.size (by rw [Z2.out]; omega) (by simp)).trans HY0.out
  have g1 := (k3.block (w.heap.size + 1) (by rw [Z2.out]; omega) (by simp)).trans HY1.out
  have g2 := (k3.block (w.heap.size + 2) (by rw [Z2.out]; omega) (by simp)).trans HY2.out
  have G0 := Lib.hid g0
  have G2 := Lib.hid g2
  have Z3 := Lib.hid (show w.heap.size + 3 ≤ w3.heap.size by have := k3.size; rw [Z2.out] at this; exact this)
  have G1 := Lib.hid g1
  have K3 := Lib.hid (K2.out.trans k3)
  clear r0 r1 r2 f0 f1 f2 k3 g0 g1 g2
  have r0 := cell_of_block G1.out 0
  have r1 := cell_of_block G1.out 1
  have r2 := cell_of_block G1.out 2
  have f0 := free_of_block G1.out 0
  have f1 := free_of_block G1.out 1
  have f2 := free_of_block G1.out 2
  simp at r0 r1 r2
  unfold infV
  go_upto_region 3 with fail
  refine wp_gn (fun W4 hW4 => ?_)
  have hz1 := store3 (v0 := .int .i64 yc) (v1 := .bool yk) (v2 := .int .i64 ys) G1.out
  have hz0 := (store3_other (W := w3) (b := w.heap.size + 1) (c := w.heap.size) (v0 := .int .i64 yc) (v1 := .bool yk) (v2 := .int .i64 ys) (by omega)).trans G0.out
  have hz2 := (store3_other (W := w3) (b := w.heap.size + 1) (c := w.heap.size + 2) (v0 := .int .i64 yc) (v1 := .bool yk) (v2 := .int .i64 ys) (by omega)).trans G2.out
  have hzs : w.heap.size + 3 ≤ W4.heap.size := by rw [hW4]; simp [World.setCell]; exact Z3.out
  have k4 : Keeps [] w W4 := by rw [hW4]; exact store3_keeps K3.out (Nat.le_succ _)
  rw [← hW4] at hz0 hz1 hz2
  have HZ0 := Lib.hid hz0
  have HZ1 := Lib.hid hz1
  have HZ2 := Lib.hid hz2
  have Z4 := Lib.hid hzs
  have K4 := Lib.hid k4
  have L4 := Lib.hid (HL.out.keep K4.out)
  clear r0 r1 r2 f0 f1 f2 hz0 hz1 hz2 hzs k4 hW4
  have q0 := cell_of_block HZ0.out 0
  have q1 := cell_of_block HZ0.out 1
  have q2 := cell_of_block HZ0.out 2
  have q3 := cell_of_block HZ0.out 3
  have q4 := cell_of_block HZ0.out 4
  have q5 := cell_of_block HZ0.out 5
  have q6 := cell_of_block HZ0.out 6
  have q7 := cell_of_block HZ0.out 7
  have r0 := cell_of_block HZ1.out 0
  have r1 := cell_of_block HZ1.out 1
  have r2 := cell_of_block HZ1.out 2
  simp at q0 q1 q2 q3 q4 q5 q6 q7 r0 r1 r2
  have v0 := cell_of_block HZ2.out 0
  have v2 := cell_of_block HZ2.out 2
  simp at v0 v2
  go_wp2_with fail
  refine (make_any _ L4.out key ⟨tp, ta, tb, tc, td⟩ cl tk ⟨yc, yk, ys⟩ HK.out HT.out hc0 hc1 (by omega) (by omega) HIN.out).mono ?_
  rintro e w5 ⟨rfl, k5⟩
  rw [makeE_ok HOK.out]
  have hmk := make_ok (key := key) (t := ⟨tp, ta, tb, tc, td⟩) (cl := cl) (tk := tk) HOK.out
  have hcb := makeC_bd (t := ⟨tp, ta, tb, tc, td⟩) (cl := cl) (tick := tk) (x := ⟨yc, yk, ys⟩) HK.out
  generalize makeC key ⟨tp, ta, tb, tc, td⟩ cl tk ⟨yc, yk, ys⟩ = n at *
  obtain ⟨g0, g1⟩ := hcb
  obtain ⟨q, hq⟩ : ∃ q, topOf (hashOf key ⟨tp, ta, tb, tc, td⟩ cl (tk / 64)) = q * 256 := ⟨_, rfl⟩
  have hsb := says_bd HOK.out
  have hlow : n / 256 * 256 = q * 256 := by omega
  have htold : told n = ⟨yc, yk, ys⟩ := by rw [hmk, hq]; exact told_says HOK.out q
  have HTOLD := Lib.hid htold
  have HMK := Lib.hid hmk
  have HQ := Lib.hid hq
  have HLOW := Lib.hid hlow
  have HSB := Lib.hid hsb
  have K5 := Lib.hid k5
  have L5 := Lib.hid (L4.out.keep K5.out)
  have Z5 := Lib.hid (show w.heap.size + 3 ≤ w5.heap.size by have := k5.size; have := Z4.out; omega)
  clear q0 q1 q2 q3 q4 q5 q6 q7 r0 r1 r2 v0 v2 k5 hmk hq hlow htold hsb
  have q0 := keeps_cell K5.out (cell_of_block HZ0.out 0)
  have q1 := keeps_cell K5.out (cell_of_block HZ0.out 1)
  have q2 := keeps_cell K5.out (cell_of_block HZ0.out 2)
  have q3 := keeps_cell K5.out (cell_of_block HZ0.out 3)
  have q4 := keeps_cell K5.out (cell_of_block HZ0.out 4)
  have q5 := keeps_cell K5.out (cell_of_block HZ0.out 5)
  have q6 := keeps_cell K5.out (cell_of_block HZ0.out 6)
  have q7 := keeps_cell K5.out (cell_of_block HZ0.out 7)
  have v2 := keeps_cell K5.out (cell_of_block HZ2.out 2)
  have e0 : 0 ≤ beh % 65 := by omega
  have e1 : beh % 65 ≤ 64 := by omega
  go_upto_region 5 with fail
  have HF1 := Lib.hid (check_fresh (fresh_of (key := key) (t := ⟨tp, ta, tb, tc, td⟩) (cl := cl) (th := tk + beh % 65) (ck := n) t0 (by omega) (by omega) (by rw [HLOW.out, HQ.out])))
  have HF2 := Lib.hid (fun o (h : o / 256 * 256 = q * 256) => check_fresh (fresh_of (key := key) (t := ⟨tp, ta, tb, tc, td⟩) (cl := cl) (th := tk + beh % 65) (ck := o) t0 (by omega) (by omega) (by rw [h, HQ.out])))
  have th0 : 0 ≤ tk + beh % 65 := by omega
  have th1 : tk + beh % 65 ≤ 18446744073709551615 := by omega
  generalize tk + beh % 65 = th at *
  go_wp2_with fail
  refine (check_any _ key ⟨tp, ta, tb, tc, td⟩ cl th n HK.out HT.out hc0 hc1 th0 th1 g0 g1).mono ?_
  rintro e w6 ⟨rfl, k6⟩
  rw [HF1.out.1, HF1.out.2, HTOLD.out]
  have K6 := Lib.hid (K5.out.trans k6)
  have Z6 := Lib.hid (show w.heap.size + 3 ≤ w6.heap.size by have := k6.size; have := Z5.out; omega)
  clear q0 q1 q2 q3 q4 q5 q6 q7 v2 k6
  unfold infV
  go_upto_region 6 with fail
  refine wp_gn (fun W7 hW7 => ?_)
  have y0 := (MapKept.heap_alloc w6 (.cells #[.int .i64 yc, .bool yk, .int .i64 ys] 30)).1
  have k7 : Keeps [] W4 W7 := by rw [hW7]; exact K6.out.alloc' _
  rw [← hW7] at y0
  have K7 := Lib.hid k7
  have Z7 := Lib.hid (show w.heap.size + 3 ≤ W7.heap.size by have := k7.size; have := Z4.out; omega)
  have m0 := cell_of_block y0 0
  have m1 := cell_of_block y0 1
  have m2 := cell_of_block y0 2
  simp at m0 m1 m2
  clear y0 hW7 k7
  have r0 := keeps_cell K7.out (cell_of_block HZ1.out 0)
  have r1 := keeps_cell K7.out (cell_of_block HZ1.out 1)
  have r2 := keeps_cell K7.out (cell_of_block HZ1.out 2)
  go_upto_region 8 with fail
  clear m0 m1 m2
  have v0 := keeps_cell K7.out (cell_of_block HZ2.out 0)
  go_upto_region 9 with fail
  rw [andNot255 g0 g1, and255 n0 n1]
  have hor : bits .or .u32 (n / 256 * 256) (num % 256) = n / 256 * 256 + num % 256 := or_add32 8 ⟨by omega, by omega⟩ (by omega) (by omega) (by omega) (by omega)
  rw [hor]
  have o0 : 0 ≤ n / 256 * 256 + num % 256 := by omega
  have o1 : n / 256 * 256 + num % 256 ≤ 4294967295 := by omega
  have o2 : (n / 256 * 256 + num % 256) / 256 * 256 = q * 256 := by have := HLOW.out; omega
  generalize n / 256 * 256 + num % 256 = o at *
  have O2 := Lib.hid o2
  clear hor o2 v0 r0 r1 r2
  have q0 := keeps_cell K7.out (cell_of_block HZ0.out 0)
  have q1 := keeps_cell K7.out (cell_of_block HZ0.out 1)
  have q2 := keeps_cell K7.out (cell_of_block HZ0.out 2)
  have q3 := keeps_cell K7.out (cell_of_block HZ0.out 3)
  have q4 := keeps_cell K7.out (cell_of_block HZ0.out 4)
  have q5 := keeps_cell K7.out (cell_of_block HZ0.out 5)
  have q6 := keeps_cell K7.out (cell_of_block HZ0.out 6)
  have q7 := keeps_cell K7.out (cell_of_block HZ0.out 7)
  go_wp2_with fail
  refine (check_any _ key ⟨tp, ta, tb, tc, td⟩ cl th o HK.out HT.out hc0 hc1 th0 th1 o0 o1).mono ?_
  rintro e w8 ⟨rfl, k8⟩
  rw [(HF2.out o O2.out).1, (HF2.out o O2.out).2]
  have hzo := told_ok o
  have hzi := told_in o
  have hzs := says_told o
  generalize hz : told o = z at *
  have HZO := Lib.hid hzo
  have HZI := Lib.hid hzi
  have HZS := Lib.hid hzs
  have HZ := Lib.hid hz
  clear hzo hzi hzs hz
  obtain ⟨zc, zk, zs⟩ := z
  have K8 := Lib.hid (K7.out.trans k8)
  clear q0 q1 q2 q3 q4 q5 q6 q7 k8
  unfold infV
  go_upto_region 10 with fail
  refine wp_gn (fun W9 hW9 => ?_)
  have y0 := (MapKept.heap_alloc w8 (.cells #[.int .i64 zc, .bool zk, .int .i64 zs] 30)).1
  have k9 : Keeps [] W4 W9 := by rw [hW9]; exact K8.out.alloc' _
  rw [← hW9] at y0
  have K9 := Lib.hid k9
  have Y9 := Lib.hid y0
  have L9 := Lib.hid (L4.out.keep K9.out)
  have Z9 := Lib.hid (show w8.heap.size < W9.heap.size by rw [hW9]; simp)
  clear hW9 y0 k9
  have m0 := cell_of_block Y9.out 0
  have m1 := cell_of_block Y9.out 1
  have m2 := cell_of_block Y9.out 2
  simp at m0 m1 m2
  have q0 := keeps_cell K9.out (cell_of_block HZ0.out 0)
  have q1 := keeps_cell K9.out (cell_of_block HZ0.out 1)
  have q2 := keeps_cell K9.out (cell_of_block HZ0.out 2)
  have q3 := keeps_cell K9.out (cell_of_block HZ0.out 3)
  have q4 := keeps_cell K9.out (cell_of_block HZ0.out 4)
  have q5 := keeps_cell K9.out (cell_of_block HZ0.out 5)
  have q6 := keeps_cell K9.out (cell_of_block HZ0.out 6)
  have q7 := keeps_cell K9.out (cell_of_block HZ0.out 7)
  go_wp2_with fail
  refine (make_any _ L9.out key ⟨tp, ta, tb, tc, td⟩ cl tk ⟨zc, zk, zs⟩ HK.out HT.out hc0 hc1 (by omega) (by omega) HZI.out).mono ?_
  rintro e w10 ⟨rfl, k10⟩
  have hag : makeC key ⟨tp, ta, tb, tc, td⟩ cl tk ⟨zc, zk, zs⟩ = o := by
    rw [make_ok HZO.out, HQ.out, HZS.out]
    have := O2.out
    omega
  rw [hag, makeE_ok HZO.out]
  have K10 := Lib.hid (K9.out.trans k10)
  have L10 := Lib.hid (L9.out.keep k10)
  have l0 := keeps_cell k10 m0
  have l1 := keeps_cell k10 m1
  have l2 := keeps_cell k10 m2
  clear q0 q1 q2 q3 q4 q5 q6 q7 m0 m1 m2 k10 hag
  go_wp2_with fail
  refine (awake_any _ L10.out).mono ?_
  rintro e w11 ⟨rfl, k11⟩
  have K11 := Lib.hid (K10.out.trans k11)
  have m0 := keeps_cell k11 l0
  have m1 := keeps_cell k11 l1
  have m2 := keeps_cell k11 l2
  clear l0 l1 l2 k11
  have r0 := keeps_cell K11.out (cell_of_block HZ1.out 0)
  have r1 := keeps_cell K11.out (cell_of_block HZ1.out 1)
  have r2 := keeps_cell K11.out (cell_of_block HZ1.out 2)
  by_cases ho : o = n
  · have hzy : (⟨zc, zk, zs⟩ : Inf) = ⟨yc, yk, ys⟩ := by rw [← HZ.out, ← HTOLD.out, ho]
    injection hzy with h1 h2 h3
    subst h1 h2 h3 ho
    go_wp2_with fail
    go_ret
    exact ⟨by simp, K4.out.trans K11.out⟩
  · have hon : (o == n) = false := by simpa using ho
    have hne : (⟨zc, zk, zs⟩ : Inf) ≠ ⟨yc, yk, ys⟩ := by
      intro h
      apply ho
      have h1 := HZS.out
      rw [h] at h1
      have h2 := HMK.out
      have h3 := HQ.out
      have h4 := O2.out
      have h5 := HSB.out
      omega
    by_cases h1 : zc = yc
    · subst h1
      by_cases h2 : zk = yk
      · subst h2
        have h3 : (zs == ys) = false := by simp; intro h; exact hne (by rw [h])
        go_wp2_with fail
        go_ret
        exact ⟨by simp, K4.out.trans K11.out⟩
      · have h2' : (zk == yk) = false := by simpa using h2
        go_wp2_with fail
        go_ret
        exact ⟨by simp, K4.out.trans K11.out⟩
    · have h1' : (zc == yc) = false := by simpa using h1
      go_wp2_with fail
      go_ret
      exact ⟨by simp, K4.out.trans K11.out⟩
end Go.Proofs.YtkmhekfpfmhebaaDoor
