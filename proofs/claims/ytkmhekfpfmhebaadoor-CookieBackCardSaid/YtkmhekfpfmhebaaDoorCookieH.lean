/-
  The walks of package cookie: hashes, and the reference's. Condition: numbers are in the ranges of their kinds.
-/
import Derived.Test.YtkmhekfpfmhebaaDoorCookieU
namespace Go.Proofs.YtkmhekfpfmhebaaDoor
open Go.RowKit

theorem calls_gn {P : Program} {f : FuncId} {args : Array Value} {w : World} {R : Ending → World → Prop} (h : ∀ W, W = w → Calls P f args W R) : Calls P f args w R := h w rfl
theorem wp_gn {P : Program} {c : Code} {Q : Exit → Act → World → Prop} {a : Act} {w : World} (h : ∀ W, W = w → c.wp P Q a W) : c.wp P Q a w := h w rfl

structure Tup where
  (p a b c d : Int)
structure Tup.Ok (t : Tup) : Prop where
  p0 : 0 ≤ t.p
  p1 : t.p ≤ 255
  a0 : 0 ≤ t.a
  a1 : t.a ≤ 4294967295
  b0 : 0 ≤ t.b
  b1 : t.b ≤ 4294967295
  c0 : 0 ≤ t.c
  c1 : t.c ≤ 65535
  d0 : 0 ≤ t.d
  d1 : t.d ≤ 65535
def tupV (t : Tup) : Value := .agg #[.int .u8 t.p, .int .u32 t.a, .int .u32 t.b, .int .u16 t.c, .int .u16 t.d]
def hashL (t : Tup) (cl ep : Int) : List Int := [t.p, t.a * 4294967296 + t.b, t.c * 65536 + t.d, cl, ep]
def hashOf (key : Int) (t : Tup) (cl ep : Int) : Int := foldMix key (hashL t cl ep)
theorem hashOf_bd {key : Int} (hk : U64 key) (t : Tup) (cl ep : Int) : U64 (hashOf key t cl ep) := foldMix_bd hk _

set_option maxHeartbeats 2000000 in
theorem hash_any (w : World) (key : Int) (t : Tup) (cl ep : Int) (hk : U64 key) (ht : t.Ok) (hc0 : 0 ≤ cl) (hc1 : cl ≤ 4294967295) (he0 : 0 ≤ ep) (he1 : ep ≤ 18446744073709551615) :
    Calls Tryd.prog 16 #[.int .u64 key, tupV t, .int .u32 cl, .int .u64 ep] w fun e w' => e = .returned (.int .u64 (hashOf key t cl ep)) ∧ Keeps [] w w' := by
  obtain ⟨p, a, b, c, d⟩ := t
  obtain ⟨p0, p1, a0, a1, b0, b1, c0, c1, d0, d1⟩ := ht
  simp only at p0 p1 a0 a1 b0 b1 c0 c1 d0 d1
  have o1 : bits .or .u64 (a * 4294967296) b = a * 4294967296 + b := or_add 32 ⟨by omega, by omega⟩ (by omega) (by omega) (by omega) (by omega)
  have o2 : bits .or .u64 (c * 65536) d = c * 65536 + d := or_add 16 ⟨by omega, by omega⟩ (by omega) (by omega) (by omega) (by omega)
  have HB := Lib.hid (show ∀ i, i < 5 → U64 ((hashL ⟨p, a, b, c, d⟩ cl ep).getD i 0) by
    intro i hi
    rcases (by omega : i = 0 ∨ i = 1 ∨ i = 2 ∨ i = 3 ∨ i = 4) with rfl | rfl | rfl | rfl | rfl <;> simp [hashL, U64] <;> omega)
  have HK := Lib.hid hk
  have O1 := Lib.hid o1
  have O2 := Lib.hid o2
  clear hk o1 o2
  unfold tupV
  go_enter Tryd.func16, Tryd.ntmps16
  go_upto_region 1 with fail
  go_wp2_with fail
  rw [O1.out, O2.out]
  refine calls_gn (fun W1 hW1 => ?_)
  have kW : Keeps [] w W1 := by rw [hW1]; exact ((Keeps.refl _ _).alloc' _).alloc' _
  have hx := (MapKept.heap_alloc (w.alloc (.cells #[.int .u8 p, .int .u32 a, .int .u32 b, .int .u16 c, .int .u16 d] 26)) (.cells #[.int .u64 p, .int .u64 (a * 4294967296 + b), .int .u64 (c * 65536 + d), .int .u64 cl, .int .u64 ep] 22)).1
  rw [← hW1] at hx
  have hcell : ∀ i, i < 5 → W1.cell? ⟨w.heap.size + 1, i, none⟩ = some (.int .u64 ((hashL ⟨p, a, b, c, d⟩ cl ep).getD i 0)) := by
    intro i hi
    have := cell_of_block hx i
    rcases (by omega : i = 0 ∨ i = 1 ∨ i = 2 ∨ i = 3 ∨ i = 4) with rfl | rfl | rfl | rfl | rfl <;> simpa [hashL] using this
  clear hW1
  refine (mixed_any _ _ (hashL ⟨p, a, b, c, d⟩ cl ep) _ hcell HB.out (Nat.le_refl 5) HK.out).mono ?_
  rintro e w1 ⟨rfl, rfl⟩
  go_wp2_with fail
  go_ret
  exact ⟨by rfl, kW⟩

set_option maxHeartbeats 2000000 in
theorem rhash_any (w : World) (key : Int) (t : Tup) (cl ep : Int) (hk : U64 key) (ht : t.Ok) (hc0 : 0 ≤ cl) (hc1 : cl ≤ 4294967295) (he0 : 0 ≤ ep) (he1 : ep ≤ 18446744073709551615) :
    Calls Tryd.prog 17 #[.int .u64 key, tupV t, .int .u32 cl, .int .u64 ep] w fun e w' => e = .returned (.int .u64 (hashOf key t cl ep)) ∧ Keeps [] w w' := by
  obtain ⟨p, a, b, c, d⟩ := t
  obtain ⟨p0, p1, a0, a1, b0, b1, c0, c1, d0, d1⟩ := ht
  simp only at p0 p1 a0 a1 b0 b1 c0 c1 d0 d1
  have hh : hashOf key ⟨p, a, b, c, d⟩ cl ep = mix (xr (mix (xr (mix (xr (mix (xr (mix (xr key p)) (a * 4294967296 + b))) (c * 65536 + d))) cl)) ep) := rfl
  rw [hh]
  have b1' := xr_bd hk (show U64 p from ⟨by omega, by omega⟩)
  have b2' := xr_bd (mix_bd (xr key p)) (show U64 (a * 4294967296 + b) from ⟨by omega, by omega⟩)
  have b3' := xr_bd (mix_bd (xr (mix (xr key p)) (a * 4294967296 + b))) (show U64 (c * 65536 + d) from ⟨by omega, by omega⟩)
  have b4' := xr_bd (mix_bd (xr (mix (xr (mix (xr key p)) (a * 4294967296 + b))) (c * 65536 + d))) (show U64 cl from ⟨by omega, by omega⟩)
  have b5' := xr_bd (mix_bd (xr (mix (xr (mix (xr (mix (xr key p)) (a * 4294967296 + b))) (c * 65536 + d))) cl)) (show U64 ep from ⟨by omega, by omega⟩)
  have m1 := mix_bd (xr key p)
  have m2 := mix_bd (xr (mix (xr key p)) (a * 4294967296 + b))
  have m3 := mix_bd (xr (mix (xr (mix (xr key p)) (a * 4294967296 + b))) (c * 65536 + d))
  have m4 := mix_bd (xr (mix (xr (mix (xr (mix (xr key p)) (a * 4294967296 + b))) (c * 65536 + d))) cl)
  have HB1 := Lib.hid b1'
  have HB2 := Lib.hid b2'
  have HB3 := Lib.hid b3'
  have HB4 := Lib.hid b4'
  have HB5 := Lib.hid b5'
  have M1 := Lib.hid m1
  have M2 := Lib.hid m2
  have M3 := Lib.hid m3
  have M4 := Lib.hid m4
  obtain ⟨k0, k1⟩ := hk
  clear hh b1' b2' b3' b4' b5' m1 m2 m3 m4
  unfold tupV
  go_enter Tryd.func17, Tryd.ntmps17
  go_upto_region 1 with fail
  refine wp_gn (fun W1 hW1 => ?_)
  have kW : Keeps [] w W1 := by rw [hW1]; exact (Keeps.refl _ _).alloc' _
  have hx := (MapKept.heap_alloc w (.cells #[.int .u8 p, .int .u32 a, .int .u32 b, .int .u16 c, .int .u16 d] 26)).1
  rw [← hW1] at hx
  clear hW1
  have q0 := cell_of_block hx 0
  have q1 := cell_of_block hx 1
  have q2 := cell_of_block hx 2
  have q3 := cell_of_block hx 3
  have q4 := cell_of_block hx 4
  simp at q0 q1 q2 q3 q4
  have KW := Lib.hid kW
  clear kW hx
  go_wp2_with fail
  rw [← xr.eq_1]
  refine (refMix_any _ _ HB1.out).mono ?_
  rintro e w1 ⟨rfl, rfl⟩
  generalize e1 : mix (xr key p) = x1 at *
  have E1 := Lib.hid e1
  clear e1
  obtain ⟨v0, v1⟩ := M1.out
  go_wp2_with fail
  rw [← xr.eq_1]
  refine (refMix_any _ _ HB2.out).mono ?_
  rintro e w1 ⟨rfl, rfl⟩
  generalize e2 : mix (xr x1 (a * 4294967296 + b)) = x2 at *
  have E2 := Lib.hid e2
  clear e2
  clear v0 v1
  obtain ⟨v0, v1⟩ := M2.out
  go_wp2_with fail
  rw [← xr.eq_1]
  refine (refMix_any _ _ HB3.out).mono ?_
  rintro e w1 ⟨rfl, rfl⟩
  generalize e3 : mix (xr x2 (c * 65536 + d)) = x3 at *
  have E3 := Lib.hid e3
  clear e3
  clear v0 v1
  obtain ⟨v0, v1⟩ := M3.out
  go_wp2_with fail
  rw [← xr.eq_1]
  refine (refMix_any _ _ HB4.out).mono ?_
  rintro e w1 ⟨rfl, rfl⟩
  generalize e4 : mix (xr x3 cl) = x4 at *
  have E4 := Lib.hid e4
  clear e4
  clear v0 v1
  obtain ⟨v0, v1⟩ := M4.out
  go_wp2_with fail
  rw [← xr.eq_1]
  refine (refMix_any _ _ HB5.out).mono ?_
  rintro e w1 ⟨rfl, rfl⟩
  go_wp2_with fail
  go_ret
  obtain rfl := E4.out
  obtain rfl := E3.out
  obtain rfl := E2.out
  obtain rfl := E1.out
  exact ⟨by rfl, KW.out⟩
end Go.Proofs.YtkmhekfpfmhebaaDoor
