/-
  The walks of package cookie's reference: what a cookie says. Condition: numbers are in the ranges of their kinds.
-/
import Derived.Test.YtkmhekfpfmhebaaDoorCookieK
namespace Go.Proofs.YtkmhekfpfmhebaaDoor
open Go.RowKit

theorem isAt_eq2 {key : Int} {t : Tup} {cl ep ck : Int} (hk : U64 key) : (hashOf key t cl ep / 1099511627776 == ck / 256) = isAt key t cl ep ck := by
  obtain ⟨h2, h3⟩ := hashOf_bd hk t cl ep
  unfold isAt topOf
  generalize hashOf key t cl ep = h at *
  rw [show (h / 1099511627776 == ck / 256) = decide (h / 1099511627776 = ck / 256) from rfl, decide_eq_decide]
  omega

set_option maxHeartbeats 2000000 in
theorem rcheck_any (w : World) (key : Int) (t : Tup) (cl tick ck : Int) (hk : U64 key) (ht : t.Ok) (hc0 : 0 ≤ cl) (hc1 : cl ≤ 4294967295) (he0 : 0 ≤ tick) (he1 : tick ≤ 18446744073709551615) (hk0 : 0 ≤ ck) (hk1 : ck ≤ 4294967295) :
    Calls Tryd.prog 20 #[.int .u64 key, tupV t, .int .u32 cl, .int .u64 tick, .int .u32 ck] w fun e w' => e = .returned (.tuple #[infV (checkI key t cl tick ck), .int .i64 (checkE key t cl tick ck)]) ∧ Keeps [] w w' := by
  have HO := Lib.hid (show fresh key t cl tick ck = true → checkI key t cl tick ck = told ck ∧ checkE key t cl tick ck = 0 from fun h => by unfold checkI checkE; rw [if_pos h, if_pos h]; exact ⟨rfl, rfl⟩)
  have HN := Lib.hid (show fresh key t cl tick ck = false → checkI key t cl tick ck = ⟨0, false, 0⟩ ∧ checkE key t cl tick ck = 25 from fun h => by unfold checkI checkE; rw [h]; exact ⟨rfl, rfl⟩)
  have HF := Lib.hid (show fresh key t cl tick ck = (isAt key t cl (tick / 64) ck || (!decide (tick / 64 = 0) && isAt key t cl (tick / 64 - 1) ck)) from rfl)
  have HA := Lib.hid (fun (ep : Int) => @isAt_eq2 key t cl ep ck hk)
  have HB := Lib.hid (fun (ep : Int) => hashOf_bd hk t cl ep)
  generalize fresh key t cl tick ck = fr at *
  generalize checkI key t cl tick ck = ri at *
  generalize checkE key t cl tick ck = re at *
  obtain ⟨tp, ta, tb, tc, td⟩ := t
  have HK := Lib.hid hk
  have HT := Lib.hid ht
  clear hk ht
  unfold tupV
  go_enter Tryd.func20, Tryd.ntmps20
  go_upto_region 1 with fail
  refine wp_gn (fun W1 hW1 => ?_)
  have kW : Keeps [] w W1 := by rw [hW1]; exact ((Keeps.refl _ _).alloc' _).alloc' _
  have hs := two_allocs w (.cells #[.int .u8 tp, .int .u32 ta, .int .u32 tb, .int .u16 tc, .int .u16 td] 26) (.cells #[.int .i64 0, .bool false, .int .i64 0] 42)
  rw [← hW1] at hs
  have HX := Lib.hid hs
  obtain ⟨hx2, hx5⟩ := hs
  have hsz : W1.heap.size = w.heap.size + 2 := by rw [hW1]; simp
  have q0 := cell_of_block hx2 0
  have q1 := cell_of_block hx2 1
  have q2 := cell_of_block hx2 2
  have q3 := cell_of_block hx2 3
  have q4 := cell_of_block hx2 4
  simp at q0 q1 q2 q3 q4
  have KW := Lib.hid kW
  have SZ := Lib.hid hsz
  clear kW hx2 hx5 hW1 hsz
  go_wp2_with fail
  refine (rhash_any _ _ ⟨tp, ta, tb, tc, td⟩ _ _ HK.out HT.out hc0 hc1 (by omega) (by omega)).mono ?_
  rintro e w2 ⟨rfl, k2⟩
  have K2 := Lib.hid k2
  have y5 := (k2.block (w.heap.size + 1) (by rw [SZ.out]; omega) (by simp)).trans HX.out.2
  have Y5 := Lib.hid y5
  have SZ2 := Lib.hid k2.size
  clear k2 y5 q0 q1 q2 q3 q4
  obtain ⟨b0, b1⟩ := HB.out (tick / 64)
  have ha := HA.out (tick / 64)
  have hb256 : (tick / 64) / 1 = tick / 64 := by omega
  clear hb256
  generalize hashOf key ⟨tp, ta, tb, tc, td⟩ cl (tick / 64) = h1 at *
  cases hi1 : isAt key ⟨tp, ta, tb, tc, td⟩ cl (tick / 64) ck with
  | true =>
    rw [hi1] at ha
    by_cases htz : tick / 64 = 0
    · have htd : ¬ 0 < tick / 64 := by omega
      obtain ⟨e1, e2⟩ := HO.out (by rw [HF.out, hi1]; rfl)
      have E1 := Lib.hid e1
      have E2 := Lib.hid e2
      clear e1 e2 hi1 htz
      go_upto_region 9 with fail
      rw [show ck % 256 / 32 = ck / 32 % 8 by omega, show ck % 256 / 16 % 2 = ck / 16 % 2 by omega, show ck % 256 % 16 = ck % 16 by omega]
      refine wp_gn (fun W3 hW3 => ?_)
      have z5 := (Below.heap_alloc w2 (.cells #[.int .i64 (ck / 32 % 8), .bool (ck / 16 % 2 == 1), .int .i64 (ck % 16)] 42) (w.heap.size + 1) (by have := SZ2.out; rw [SZ.out] at this; omega)).trans Y5.out
      have zn := (MapKept.heap_alloc w2 (.cells #[.int .i64 (ck / 32 % 8), .bool (ck / 16 % 2 == 1), .int .i64 (ck % 16)] 42)).1
      have k3 : Keeps [] w2 W3 := by rw [hW3]; exact (Keeps.refl _ _).alloc' _
      rw [← hW3] at z5 zn
      have KW3 := Lib.hid (KW.out.trans (K2.out.trans k3))
      have Z5 := Lib.hid z5
      have ZN := Lib.hid zn
      have m0 := cell_of_block zn 0
      have m1 := cell_of_block zn 1
      have m2 := cell_of_block zn 2
      have f2 := free_of_block zn 2
      have fr0 := free_of_block z5 0
      have fr1 := free_of_block z5 1
      have fr2 := free_of_block z5 2
      have r0 := cell_of_block z5 0
      have r1 := cell_of_block z5 1
      have r2 := cell_of_block z5 2
      simp at m0 m1 m2 r0 r1 r2
      clear hW3 k3 z5 zn
      by_cases h15 : ck % 16 = 15
      · have hne : ¬ w.heap.size + 1 = w2.heap.size := by have := SZ2.out; rw [SZ.out] at this; omega
        have hb : (ck % 16 == 15) = true := by rw [h15]; rfl
        go_upto_region 11 with fail
        refine wp_gn (fun W4 hW4 => ?_)
        have z4 := (Below.heap_setCell W3 ⟨w2.heap.size, 2, none⟩ (.int .i64 (-1)) (w.heap.size + 1) hne).trans Z5.out
        have n4 := heap_setCell_self ZN.out 2 (.int .i64 (-1))
        rw [← hW4] at z4 n4
        have KW4 := Lib.hid (show Keeps [] w W4 by rw [hW4]; exact KW3.out.setCell' (p := ⟨w2.heap.size, 2, none⟩) (Or.inl (by simp; have := SZ2.out; rw [SZ.out] at this; omega)) _)
        clear hW4 m0 m1 m2 f2 fr0 fr1 fr2 r0 r1 r2
        have m0 := cell_of_block n4 0
        have m1 := cell_of_block n4 1
        have m2 := cell_of_block n4 2
        have fr0 := free_of_block z4 0
        have fr1 := free_of_block z4 1
        have fr2 := free_of_block z4 2
        have r0 := cell_of_block z4 0
        have r1 := cell_of_block z4 1
        have r2 := cell_of_block z4 2
        simp at m0 m1 m2 r0 r1 r2
        clear z4 n4
        go_wp2_with fail
        refine bodyPost_ret (v := .tuple #[.agg #[.int .i64 (ck / 32 % 8), .bool (ck / 16 % 2 == 1), .int .i64 (-1)], .int .i64 0]) (by simp [results, Tryd.results20, go_sem, r0, r1, r2]) rfl ⟨?_, ?_⟩
        · rw [E1.out, E2.out]
          simp [infV, told, h15]
        · exact ((KW4.out.setCell' (p := ⟨w.heap.size + 1, 0, none⟩) (Or.inl (by simp)) _).setCell' (p := ⟨w.heap.size + 1, 1, none⟩) (Or.inl (by simp)) _).setCell' (p := ⟨w.heap.size + 1, 2, none⟩) (Or.inl (by simp)) _
      · have hb : (ck % 16 == 15) = false := by simpa using h15
        go_upto_region 11 with fail
        go_wp2_with fail
        refine bodyPost_ret (v := .tuple #[.agg #[.int .i64 (ck / 32 % 8), .bool (ck / 16 % 2 == 1), .int .i64 (ck % 16)], .int .i64 0]) (by simp [results, Tryd.results20, go_sem, r0, r1, r2]) rfl ⟨?_, ?_⟩
        · rw [E1.out, E2.out]
          simp [infV, told, h15]
        · exact ((KW3.out.setCell' (p := ⟨w.heap.size + 1, 0, none⟩) (Or.inl (by simp)) _).setCell' (p := ⟨w.heap.size + 1, 1, none⟩) (Or.inl (by simp)) _).setCell' (p := ⟨w.heap.size + 1, 2, none⟩) (Or.inl (by simp)) _
    · have htd : 0 < tick / 64 := by omega
      obtain ⟨e1, e2⟩ := HO.out (by rw [HF.out, hi1]; rfl)
      have E1 := Lib.hid e1
      have E2 := Lib.hid e2
      clear e1 e2 hi1 htz
      go_upto_region 9 with fail
      rw [show ck % 256 / 32 = ck / 32 % 8 by omega, show ck % 256 / 16 % 2 = ck / 16 % 2 by omega, show ck % 256 % 16 = ck % 16 by omega]
      refine wp_gn (fun W3 hW3 => ?_)
      have z5 := (Below.heap_alloc w2 (.cells #[.int .i64 (ck / 32 % 8), .bool (ck / 16 % 2 == 1), .int .i64 (ck % 16)] 42) (w.heap.size + 1) (by have := SZ2.out; rw [SZ.out] at this; omega)).trans Y5.out
      have zn := (MapKept.heap_alloc w2 (.cells #[.int .i64 (ck / 32 % 8), .bool (ck / 16 % 2 == 1), .int .i64 (ck % 16)] 42)).1
      have k3 : Keeps [] w2 W3 := by rw [hW3]; exact (Keeps.refl _ _).alloc' _
      rw [← hW3] at z5 zn
      have KW3 := Lib.hid (KW.out.trans (K2.out.trans k3))
      have Z5 := Lib.hid z5
      have ZN := Lib.hid zn
      have m0 := cell_of_block zn 0
      have m1 := cell_of_block zn 1
      have m2 := cell_of_block zn 2
      have f2 := free_of_block zn 2
      have fr0 := free_of_block z5 0
      have fr1 := free_of_block z5 1
      have fr2 := free_of_block z5 2
      have r0 := cell_of_block z5 0
      have r1 := cell_of_block z5 1
      have r2 := cell_of_block z5 2
      simp at m0 m1 m2 r0 r1 r2
      clear hW3 k3 z5 zn
      by_cases h15 : ck % 16 = 15
      · have hne : ¬ w.heap.size + 1 = w2.heap.size := by have := SZ2.out; rw [SZ.out] at this; omega
        have hb : (ck % 16 == 15) = true := by rw [h15]; rfl
        go_upto_region 11 with fail
        refine wp_gn (fun W4 hW4 => ?_)
        have z4 := (Below.heap_setCell W3 ⟨w2.heap.size, 2, none⟩ (.int .i64 (-1)) (w.heap.size + 1) hne).trans Z5.out
        have n4 := heap_setCell_self ZN.out 2 (.int .i64 (-1))
        rw [← hW4] at z4 n4
        have KW4 := Lib.hid (show Keeps [] w W4 by rw [hW4]; exact KW3.out.setCell' (p := ⟨w2.heap.size, 2, none⟩) (Or.inl (by simp; have := SZ2.out; rw [SZ.out] at this; omega)) _)
        clear hW4 m0 m1 m2 f2 fr0 fr1 fr2 r0 r1 r2
        have m0 := cell_of_block n4 0
        have m1 := cell_of_block n4 1
        have m2 := cell_of_block n4 2
        have fr0 := free_of_block z4 0
        have fr1 := free_of_block z4 1
        have fr2 := free_of_block z4 2
        have r0 := cell_of_block z4 0
        have r1 := cell_of_block z4 1
        have r2 := cell_of_block z4 2
        simp at m0 m1 m2 r0 r1 r2
        clear z4 n4
        go_wp2_with fail
        refine bodyPost_ret (v := .tuple #[.agg #[.int .i64 (ck / 32 % 8), .bool (ck / 16 % 2 == 1), .int .i64 (-1)], .int .i64 0]) (by simp [results, Tryd.results20, go_sem, r0, r1, r2]) rfl ⟨?_, ?_⟩
        · rw [E1.out, E2.out]
          simp [infV, told, h15]
        · exact ((KW4.out.setCell' (p := ⟨w.heap.size + 1, 0, none⟩) (Or.inl (by simp)) _).setCell' (p := ⟨w.heap.size + 1, 1, none⟩) (Or.inl (by simp)) _).setCell' (p := ⟨w.heap.size + 1, 2, none⟩) (Or.inl (by simp)) _
      · have hb : (ck % 16 == 15) = false := by simpa using h15
        go_upto_region 11 with fail
        go_wp2_with fail
        refine bodyPost_ret (v := .tuple #[.agg #[.int .i64 (ck / 32 % 8), .bool (ck / 16 % 2 == 1), .int .i64 (ck % 16)], .int .i64 0]) (by simp [results, Tryd.results20, go_sem, r0, r1, r2]) rfl ⟨?_, ?_⟩
        · rw [E1.out, E2.out]
          simp [infV, told, h15]
        · exact ((KW3.out.setCell' (p := ⟨w.heap.size + 1, 0, none⟩) (Or.inl (by simp)) _).setCell' (p := ⟨w.heap.size + 1, 1, none⟩) (Or.inl (by simp)) _).setCell' (p := ⟨w.heap.size + 1, 2, none⟩) (Or.inl (by simp)) _
  | false =>
    rw [hi1] at ha
    by_cases htz : tick / 64 = 0
    · have htd : ¬ 0 < tick / 64 := by omega
      obtain ⟨e1, e2⟩ := HN.out (by rw [HF.out, hi1]; simp [htz])
      have E1 := Lib.hid e1
      have E2 := Lib.hid e2
      have fr0 := free_of_block Y5.out 0
      have fr1 := free_of_block Y5.out 1
      have fr2 := free_of_block Y5.out 2
      have r0 := cell_of_block Y5.out 0
      have r1 := cell_of_block Y5.out 1
      have r2 := cell_of_block Y5.out 2
      simp at r0 r1 r2
      clear e1 e2 hi1 htz
      go_wp2_with fail
      refine bodyPost_ret (v := .tuple #[.agg #[.int .i64 0, .bool false, .int .i64 0], .int .i64 25]) (by simp [results, Tryd.results20, go_sem, r0, r1, r2]) rfl ⟨?_, ?_⟩
      · rw [E1.out, E2.out]
        rfl
      · exact (((KW.out.trans K2.out).setCell' (p := ⟨w.heap.size + 1, 0, none⟩) (Or.inl (by simp)) _).setCell' (p := ⟨w.heap.size + 1, 1, none⟩) (Or.inl (by simp)) _).setCell' (p := ⟨w.heap.size + 1, 2, none⟩) (Or.inl (by simp)) _
    · have htd : 0 < tick / 64 := by omega
      have hx := HX.out
      have q0 := keeps_cell K2.out (cell_of_block hx.1 0)
      have q1 := keeps_cell K2.out (cell_of_block hx.1 1)
      have q2 := keeps_cell K2.out (cell_of_block hx.1 2)
      have q3 := keeps_cell K2.out (cell_of_block hx.1 3)
      have q4 := keeps_cell K2.out (cell_of_block hx.1 4)
      have HI1 := Lib.hid hi1
      have HTZ := Lib.hid htz
      clear hx hi1 htz
      go_wp2_with fail
      refine (rhash_any _ _ ⟨tp, ta, tb, tc, td⟩ _ _ HK.out HT.out hc0 hc1 (by omega) (by omega)).mono ?_
      rintro e w5 ⟨rfl, k5⟩
      have y5 := (k5.block (w.heap.size + 1) (by have := SZ2.out; rw [SZ.out] at this; omega) (by simp)).trans Y5.out
      have V5 := Lib.hid y5
      have K5 := Lib.hid (K2.out.trans k5)
      have SZ5 := Lib.hid (Nat.le_trans SZ2.out k5.size)
      clear k5 y5 q0 q1 q2 q3 q4 ha b0 b1
      obtain ⟨b0, b1⟩ := HB.out (tick / 64 - 1)
      have ha := HA.out (tick / 64 - 1)
      have hi1 := HI1.out
      have htz := HTZ.out
      generalize hashOf key ⟨tp, ta, tb, tc, td⟩ cl (tick / 64 - 1) = h2 at *
      cases hi2 : isAt key ⟨tp, ta, tb, tc, td⟩ cl (tick / 64 - 1) ck with
      | true =>
        rw [hi2] at ha
        obtain ⟨e1, e2⟩ := HO.out (by rw [HF.out, hi1, hi2]; simp [htz])
        have E1 := Lib.hid e1
        have E2 := Lib.hid e2
        clear e1 e2 hi1 hi2 htz
        go_upto_region 9 with fail
        rw [show ck % 256 / 32 = ck / 32 % 8 by omega, show ck % 256 / 16 % 2 = ck / 16 % 2 by omega, show ck % 256 % 16 = ck % 16 by omega]
        refine wp_gn (fun W3 hW3 => ?_)
        have z5 := (Below.heap_alloc w5 (.cells #[.int .i64 (ck / 32 % 8), .bool (ck / 16 % 2 == 1), .int .i64 (ck % 16)] 42) (w.heap.size + 1) (by have := SZ5.out; rw [SZ.out] at this; omega)).trans V5.out
        have zn := (MapKept.heap_alloc w5 (.cells #[.int .i64 (ck / 32 % 8), .bool (ck / 16 % 2 == 1), .int .i64 (ck % 16)] 42)).1
        have k3 : Keeps [] w5 W3 := by rw [hW3]; exact (Keeps.refl _ _).alloc' _
        rw [← hW3] at z5 zn
        have KW3 := Lib.hid (KW.out.trans (K5.out.trans k3))
        have Z5 := Lib.hid z5
        have ZN := Lib.hid zn
        have m0 := cell_of_block zn 0
        have m1 := cell_of_block zn 1
        have m2 := cell_of_block zn 2
        have f2 := free_of_block zn 2
        have fr0 := free_of_block z5 0
        have fr1 := free_of_block z5 1
        have fr2 := free_of_block z5 2
        have r0 := cell_of_block z5 0
        have r1 := cell_of_block z5 1
        have r2 := cell_of_block z5 2
        simp at m0 m1 m2 r0 r1 r2
        clear hW3 k3 z5 zn
        by_cases h15 : ck % 16 = 15
        · have hne : ¬ w.heap.size + 1 = w5.heap.size := by have := SZ5.out; rw [SZ.out] at this; omega
          have hb : (ck % 16 == 15) = true := by rw [h15]; rfl
          go_upto_region 11 with fail
          refine wp_gn (fun W4 hW4 => ?_)
          have z4 := (Below.heap_setCell W3 ⟨w5.heap.size, 2, none⟩ (.int .i64 (-1)) (w.heap.size + 1) hne).trans Z5.out
          have n4 := heap_setCell_self ZN.out 2 (.int .i64 (-1))
          rw [← hW4] at z4 n4
          have KW4 := Lib.hid (show Keeps [] w W4 by rw [hW4]; exact KW3.out.setCell' (p := ⟨w5.heap.size, 2, none⟩) (Or.inl (by simp; have := SZ5.out; rw [SZ.out] at this; omega)) _)
          clear hW4 m0 m1 m2 f2 fr0 fr1 fr2 r0 r1 r2
          have m0 := cell_of_block n4 0
          have m1 := cell_of_block n4 1
          have m2 := cell_of_block n4 2
          have fr0 := free_of_block z4 0
          have fr1 := free_of_block z4 1
          have fr2 := free_of_block z4 2
          have r0 := cell_of_block z4 0
          have r1 := cell_of_block z4 1
          have r2 := cell_of_block z4 2
          simp at m0 m1 m2 r0 r1 r2
          clear z4 n4
          go_wp2_with fail
          refine bodyPost_ret (v := .tuple #[.agg #[.int .i64 (ck / 32 % 8), .bool (ck / 16 % 2 == 1), .int .i64 (-1)], .int .i64 0]) (by simp [results, Tryd.results20, go_sem, r0, r1, r2]) rfl ⟨?_, ?_⟩
          · rw [E1.out, E2.out]
            simp [infV, told, h15]
          · exact ((KW4.out.setCell' (p := ⟨w.heap.size + 1, 0, none⟩) (Or.inl (by simp)) _).setCell' (p := ⟨w.heap.size + 1, 1, none⟩) (Or.inl (by simp)) _).setCell' (p := ⟨w.heap.size + 1, 2, none⟩) (Or.inl (by simp)) _
        · have hb : (ck % 16 == 15) = false := by simpa using h15
          go_upto_region 11 with fail
          go_wp2_with fail
          refine bodyPost_ret (v := .tuple #[.agg #[.int .i64 (ck / 32 % 8), .bool (ck / 16 % 2 == 1), .int .i64 (ck % 16)], .int .i64 0]) (by simp [results, Tryd.results20, go_sem, r0, r1, r2]) rfl ⟨?_, ?_⟩
          · rw [E1.out, E2.out]
            simp [infV, told, h15]
          · exact ((KW3.out.setCell' (p := ⟨w.heap.size + 1, 0, none⟩) (Or.inl (by simp)) _).setCell' (p := ⟨w.heap.size + 1, 1, none⟩) (Or.inl (by simp)) _).setCell' (p := ⟨w.heap.size + 1, 2, none⟩) (Or.inl (by simp)) _
      | false =>
        rw [hi2] at ha
        obtain ⟨e1, e2⟩ := HN.out (by rw [HF.out, hi1, hi2]; simp)
        have E1 := Lib.hid e1
        have E2 := Lib.hid e2
        have fr0 := free_of_block V5.out 0
        have fr1 := free_of_block V5.out 1
        have fr2 := free_of_block V5.out 2
        have r0 := cell_of_block V5.out 0
        have r1 := cell_of_block V5.out 1
        have r2 := cell_of_block V5.out 2
        simp at r0 r1 r2
        clear e1 e2 hi1 hi2 htz
        go_wp2_with fail
        refine bodyPost_ret (v := .tuple #[.agg #[.int .i64 0, .bool false, .int .i64 0], .int .i64 25]) (by simp [results, Tryd.results20, go_sem, r0, r1, r2]) rfl ⟨?_, ?_⟩
        · rw [E1.out, E2.out]
          rfl
        · exact (((KW.out.trans K5.out).setCell' (p := ⟨w.heap.size + 1, 0, none⟩) (Or.inl (by simp)) _).setCell' (p := ⟨w.heap.size + 1, 1, none⟩) (Or.inl (by simp)) _).setCell' (p := ⟨w.heap.size + 1, 2, none⟩) (Or.inl (by simp)) _
end Go.Proofs.YtkmhekfpfmhebaaDoor
