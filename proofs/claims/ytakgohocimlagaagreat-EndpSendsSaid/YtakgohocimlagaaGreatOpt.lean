/-
  The walks of packages wire and opts: options that are made, options that are found. Condition: numbers are in the ranges of their kinds.
-/
import Derived.Test.YtakgohocimlagaaGreatSeqCut
namespace Go.Proofs.YtakgohocimlagaaGreat
open Go.RowKit
set_option linter.unusedVariables false
set_option linter.unusedSimpArgs false

def b8 (x : Int) : UInt8 := UInt8.ofNat x.toNat
theorem b8_int {x : Int} (h0 : 0 ≤ x) (h1 : x ≤ 255) : ((b8 x).toNat : Int) = x := by
  unfold b8
  rw [UInt8.toNat_ofNat']
  omega
theorem b8_lit {x : Int} (h0 : 0 ≤ x) (h1 : x ≤ 255) : u8V (b8 x) = .int .u8 x := by unfold u8V; rw [b8_int h0 h1]
def put16 (n : Int) : List UInt8 := [b8 (n / 256), b8 (n % 256)]

theorem BytesV.new (w : World) (t : TypeId) (cs : Array Value) (l : List UInt8) (n : Nat) (h : cs = (l.map u8V).toArray) (hn : l.length = n) (hm : n ≤ 1000000) : BytesV (w.alloc (.cells cs t)) (.slice (some ⟨w.heap.size, 0, none⟩) n n) l :=
  BytesV.block (t := t) (z := (0, 0)) (by rw [(MapKept.heap_alloc w _).1, h]) hn (by simp [maxLen]; omega)
theorem BytesV.two (w : World) (t : TypeId) (x y : Int) (x0 : 0 ≤ x) (x1 : x ≤ 255) (y0 : 0 ≤ y) (y1 : y ≤ 255) : BytesV (w.alloc (.cells #[.int .u8 x, .int .u8 y] t)) (.slice (some ⟨w.heap.size, 0, none⟩) 2 2) [b8 x, b8 y] :=
  BytesV.new w t _ _ 2 (by simp [b8_lit x0 x1, b8_lit y0 y1]) rfl (by omega)
theorem BytesV.one (w : World) (t : TypeId) (x : Int) (x0 : 0 ≤ x) (x1 : x ≤ 255) : BytesV (w.alloc (.cells #[.int .u8 x] t)) (.slice (some ⟨w.heap.size, 0, none⟩) 1 1) [b8 x] :=
  BytesV.new w t _ _ 1 (by simp [b8_lit x0 x1]) rfl (by omega)

set_option maxHeartbeats 400000 in
theorem wu16_own (w : World) (A : Option Addr) (m c : Nat) (l : List UInt8) (n : Int) (h : BytesV w (.slice A m c) l) (hm : m ≤ 1073741824) (n0 : 0 ≤ n) (n1 : n ≤ 65535) :
    Calls Tryz.prog 53 #[.slice A m c, .int .u16 n] w fun e w' => ∃ v, e = .returned v ∧ w'.ownsRow w.heap.size 5 1 v (l.length + 2) ((l ++ put16 n).map u8V) ∧ Keeps [] w w' := by
  have hb : BytesV w (.slice A m c) l := h
  have hl := h.form.1
  have HC := Lib.hid (sclone_own w A m c l h (by omega))
  have HL := Lib.hid hl
  clear h hl hb
  go_enter Tryz.func53, Tryz.ntmps53
  go_wp2_with fail
  refine HC.out.mono ?_
  rintro e w1 ⟨v, rfl, ho, hk⟩
  have HO := Lib.hid ho
  have HK := Lib.hid hk
  clear ho hk
  go_wp2_with (at_builtin; refine wpList_append_bytes rfl (.tmp 6) (.tmp 12) w.heap.size 37 5 rfl Tryz.underlying37 Tryz.infoU8 v l.length l rfl (HO.out.alloc _) _ (put16 n) rfl (BytesV.two _ _ _ _ (by omega) (by omega) (by omega) (by omega)) (by have := HL.out; simp [put16]; omega) (by have := HK.out.size; simp; omega) ?_; intro v2 w2 o2 g2 _ _)
  go_ret
  exact ⟨_, rfl, o2, (HK.out.alloc' _).own g2 (fun j hj => (HO.out.lt j hj).1)⟩

set_option maxHeartbeats 400000 in
theorem wu8_own (w : World) (A : Option Addr) (m c : Nat) (l : List UInt8) (n : Int) (h : BytesV w (.slice A m c) l) (hm : m ≤ 1073741824) (n0 : 0 ≤ n) (n1 : n ≤ 255) :
    Calls Tryz.prog 98 #[.slice A m c, .int .u8 n] w fun e w' => ∃ v, e = .returned v ∧ w'.ownsRow w.heap.size 5 1 v (l.length + 1) ((l ++ [b8 n]).map u8V) ∧ Keeps [] w w' := by
  have hl := h.form.1
  have HC := Lib.hid (sclone_own w A m c l h (by omega))
  have HL := Lib.hid hl
  clear h hl
  go_enter Tryz.func98, Tryz.ntmps98
  go_wp2_with fail
  refine HC.out.mono ?_
  rintro e w1 ⟨v, rfl, ho, hk⟩
  have HO := Lib.hid ho
  have HK := Lib.hid hk
  clear ho hk
  go_wp2_with (at_builtin; refine wpList_append_bytes rfl (.tmp 6) (.tmp 8) w.heap.size 37 5 rfl Tryz.underlying37 Tryz.infoU8 v l.length l rfl (HO.out.alloc _) _ [b8 n] rfl (BytesV.one _ _ _ (by omega) (by omega)) (by have := HL.out; simp; omega) (by have := HK.out.size; simp; omega) ?_; intro v2 w2 o2 g2 _ _)
  go_ret
  exact ⟨_, rfl, o2, (HK.out.alloc' _).own g2 (fun j hj => (HO.out.lt j hj).1)⟩

/-! ### options that are made -/
set_option maxHeartbeats 400000 in
theorem withMss_any (w : World) (n : Int) (n0 : 0 ≤ n) (n1 : n ≤ 65535) :
    Calls Tryz.prog 24 #[.int .u16 n] w fun e w' => ∃ A c, e = .returned (.agg #[.int .u8 2, .slice A 2 c]) ∧ BytesV w' (.slice A 2 c) (put16 n) ∧ Keeps [] w w' := by
  go_enter Tryz.func24, Tryz.ntmps24
  go_wp2_with fail
  refine (wu16_own _ none 0 0 [] n (BytesV.nil _) (by omega) n0 n1).mono ?_
  rintro e w1 ⟨v, rfl, ho, hk⟩
  obtain ⟨A, c, rfl⟩ := own_slice ho
  have HO := Lib.hid ho
  have HK := Lib.hid hk
  have hx := (HK.out.block w.heap.size (by simp) (by simp)).trans (MapKept.heap_alloc w _).1
  clear ho hk
  have z0 := free_of_block hx 0
  have z1 := free_of_block hx 1
  have c0 := cell_of_block hx 0
  have c1 := cell_of_block hx 1
  simp at c0 c1
  clear hx
  go_wp2_with fail
  refine bodyPost_ret (v := .agg #[.int .u8 2, .slice A 2 c]) (by simp [results, Tryz.results24, go_sem, c0, c1]) rfl ⟨A, c, rfl, ?_, ?_⟩
  · exact BytesV.of_own (own_setCell (own_setCell HO.out _ _ (by simp)) _ _ (by simp))
  · exact (((Keeps.alloc [] w _).trans HK.out).setCell' (Or.inl (by simp)) _).setCell' (Or.inl (by simp)) _

theorem max0 {n : Int} : (if n < 0 then (0 : Int) else n) = max n 0 := by split <;> omega
set_option maxHeartbeats 400000 in
theorem withScale_any (w : World) (n : Int) (n0 : 0 ≤ n) (n1 : n ≤ 14) :
    Calls Tryz.prog 77 #[.int .i64 n] w fun e w' => ∃ A c, e = .returned (.agg #[.int .u8 3, .slice A 1 c]) ∧ BytesV w' (.slice A 1 c) [b8 n] ∧ Keeps [] w w' := by
  go_enter Tryz.func77, Tryz.ntmps77
  go_wp2_with fail
  refine (wu8_own _ none 0 0 [] n (BytesV.nil _) (by omega) n0 (by omega)).mono ?_
  rintro e w1 ⟨v, rfl, ho, hk⟩
  obtain ⟨A, c, rfl⟩ := own_slice ho
  have HO := Lib.hid ho
  have HK := Lib.hid hk
  have hx := (HK.out.block w.heap.size (by simp) (by simp)).trans (MapKept.heap_alloc w _).1
  clear ho hk
  have z0 := free_of_block hx 0
  have z1 := free_of_block hx 1
  have c0 := cell_of_block hx 0
  have c1 := cell_of_block hx 1
  simp at c0 c1
  clear hx
  go_wp2_with fail
  refine bodyPost_ret (v := .agg #[.int .u8 3, .slice A 1 c]) (by simp [results, Tryz.results77, go_sem, c0, c1]) rfl ⟨A, c, rfl, ?_, ?_⟩
  · exact BytesV.of_own (own_setCell (own_setCell HO.out _ _ (by simp)) _ _ (by simp))
  · exact (((Keeps.alloc [] w _).trans HK.out).setCell' (Or.inl (by simp)) _).setCell' (Or.inl (by simp)) _

set_option maxHeartbeats 400000 in
theorem permit_any (w : World) : Calls Tryz.prog 78 #[] w fun e w' => e = .returned (.agg #[.int .u8 4, .slice none 0 0]) ∧ Keeps [] w w' := by
  go_enter Tryz.func78, Tryz.ntmps78
  go_wp2_with fail
  refine bodyPost_ret (v := .agg #[.int .u8 4, .slice none 0 0]) (by simp [results, Tryz.results78, go_sem]) rfl ⟨rfl, ?_⟩
  repeat (first | exact Keeps.refl _ _ | apply Keeps.alloc' | (refine Keeps.setCell' ?_ (by simp) _))
end Go.Proofs.YtakgohocimlagaaGreat
