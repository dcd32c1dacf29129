/-
  The walks of package cookie: hashes, and the reference's. Condition: numbers are in the ranges of their kinds.
-/
import Derived.Test.YtocnkiojlifgpaaGreatDoorCookieU
namespace Go.Proofs.YtocnkiojlifgpaaGreatDoor
open Go.RowKit

theorem calls_gn {P : Program} {f : FuncId} {args : Array Value} {w : World} {R : Ending → World → Prop} (h : ∀ W, W = w → Calls P f args W R) : Calls P f args w R := h w rfl
theorem wp_gn {P : Program} {c : Code} {Q : Exit → Act → World → Prop} {a : Act} {w : World} (h : ∀ W, W = w → c.wp P Q a W) : c.wp P Q a w := h w rfl

structure Tup where
  (p a b c d : Int)
structure Tup.Ok (t : Tup) : Prop where
  p0 : 0 ≤ t.p
  p1 : t.p ≤ 255
  a0 : 0 ≤ t.a
  a1 : t.a ≤ 4294967295
  b0 : 0 ≤ t.b
  b1 : t.b ≤ 4294967295
  c0 : 0 ≤ t.c
  c1 : t.c ≤ 65535
  d0 : 0 ≤ t.d
  d1 : t.d ≤ 65535
def tupV (t : Tup) : Value := .agg #[.int .u8 t.p, .int .u32 t.a, .int .u32 t.b, .int .u16 t.c, .int .u16 t.d]
def hashL (t : Tup) (cl ep : Int) : List Int := [t.p, t.a * 4294967296 + t.b, t.c * 65536 + t.d, cl, ep]
def hashOf (key : Int) (t : Tup) (cl ep : Int) : Int := foldMix key (hashL t cl ep)
theorem hashOf_bd {key : Int} (hk : U64 key) (t : Tup) (cl ep : Int) : U64 (hashOf key t cl ep) := foldMix_bd hk _

set_option maxHeartbeats 2000000 in
theorem hash_any (w : World) (key : Int) (t : Tup) (cl ep : Int) (hk : U64 key) (ht : t.Ok) (hc0 : 0 ≤ cl) (hc1 : cl ≤ 4294967295) (he0 : 0 ≤ ep) (he1 : ep ≤ 18446744073709551615) :
    Calls Tryz.prog 98 #[.int .u64 key, tupV t, .int .u32 cl, .int .u64 ep] w fun e w' => e = .returned (.int .u64 (hashOf key t cl ep)) ∧ Keeps [] w w' := by
  obtain ⟨p, a, b, c, d⟩ := t
  obtain ⟨p0, p1, a0, a1, b0, b1, c0, c1, d0, d1⟩ := ht
  simp only at p0 p1 a0 a1 b0 b1 c0 c1 d0 d1
  have o1 : bits .or .u64 (a * 4294967296) b = a * 4294967296 + b := or_add 32 ⟨by omega, by omega⟩ (by omega) (by omega) (by omega) (by omega)
  have o2 : bits .or .u64 (c * 65536) d = c * 65536 + d := or_add 16 ⟨by omega, by omega⟩ (by omega) (by omega) (by omega) (by omega)
  have HB := Lib.hid (show ∀ i, i < 5 → U64 ((hashL ⟨p, a, b, c, d⟩ cl ep).getD i 0) by
    intro i hi
    rcases (by omega : i = 0 ∨ i = 1 ∨ i = 2 ∨ i = 3 ∨ i = 4) with rfl | rfl | rfl | rfl | rfl <;> simp [hashL, U64] <;> omega)
  have HK := Lib.hid hk
  have O1 := Lib.hid o1
  have O2 := Lib.hid o2
  clear hk o1 o2
  unfold tupV
  go_enter Tryz.func98, Tryz.ntmps98
  go_upto_region 1 with fail
  go_wp2_with fail
  rw [O1.out, O2.out]
  refine calls_gn (fun W1 hW1 => ?_)
  have kW : Keeps [] w W1 := by rw [hW1]; exact ((Keeps.refl _ _).alloc' _).alloc' _
  have hx := (MapKept.heap_alloc (w.alloc (.cells #[.int .u8 p, .int .u32 a, .int .u32 b, .int .u16 c, .int .u16 d] 65)) (.cells #[.int .u64 p, .int .u64 (a * 4294967296 + b), .int .u64 (c * 65536 + d), .int .u64 cl, .int .u64 ep] 30)).1
  rw [← hW1] at hx
  have hcell : ∀ i, i < 5 → W1.cell? ⟨w.heap.size + 1, i, none⟩ = some (.int .u64 ((hashL ⟨p, a, b, c, d⟩ cl ep).getD i 0)) := by
    intro i hi
    have := cell_of_block hx i
    rcases (by omega : i = 0 ∨ i = 1 ∨ i = 2 ∨ i = 3 ∨ i = 4) with rfl | rfl | rfl | rfl | rfl <;> simpa [hashL] using this
  clear hW1
  refine (mixed_any _ _ (hashL ⟨p, a, b, c, d⟩ cl ep) _ hcell HB.out (Nat.le_refl 5) HK.out).mono ?_
  rintro e w1 ⟨rfl, rfl⟩
  go_wp2_with fail
  go_ret
  exact ⟨by rfl, kW⟩

end Go.Proofs.YtocnkiojlifgpaaGreatDoor
