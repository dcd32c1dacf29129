/-
  The closed law TlsKnown: it is true. No condition.
-/
import Derived.Test.YthcpeceamiibaaaDoorTlsE
import Derived.Test.YthcpeceamiibaaaDoorTlsV
import Derived.Test.YthcpeceamiibaaaDoorTlsRep
import Derived.Lib.SlBytesConst
namespace Go.Proofs.YthcpeceamiibaaaDoor
open Go.RowKit Go.ChangeShapes Go.WideShapes Go.ChangeAt Go.Joins Go.Lib
set_option linter.unusedVariables false
set_option linter.unusedSimpArgs false

set_option maxRecDepth 100000 in
theorem known1_any (w : World) (hw : LW w) (v : Value) (l : List UInt8) (h : BytesV w v l) (hn : l.length ≤ 90000) (k : Int) (hl : lookP l = (k, ByteArray.empty)) :
    Calls Tryd.prog 18 #[.int .i64 k, v] w fun e w' => e = .returned (.bool true) ∧ Keeps [] w w' := by
  have HL := Lib.hid (look_B w hw v l h hn)
  rw [hl] at HL
  clear hw h hl
  go_enter Tryd.func18, Tryd.ntmps18
  go_wp2_with fail
  refine HL.out.mono ?_
  rintro e w1 ⟨rfl, k1⟩
  have HK := Lib.hid k1
  clear k1 HL
  go_wp2_with fail
  go_ret
  exact ⟨rfl, HK.out⟩
theorem own_set {w : World} {B g n c j : Nat} {l : List UInt8} (h : OwnB w B (.slice (some ⟨g, 0, none⟩) n c) l) (x : UInt8) : OwnB (w.setCell ⟨g, j, none⟩ (.int .u8 (x.toNat : Int))) B (.slice (some ⟨g, 0, none⟩) n c) (l.set j x) := by
  obtain ⟨h1, h2⟩ := h
  refine ⟨by simp, ?_⟩
  rcases h2 with ⟨h0, _⟩ | ⟨g', cap, cur, e, hB, hb, hn, hm, hs, ht⟩
  · cases h0
  · injection e with e1 e2 e3
    injection e1 with e1
    injection e1 with e1
    subst e1
    refine .inr ⟨g, cap, cur.setIfInBounds j (.int .u8 (x.toNat : Int)), by rw [e2, e3, List.length_set], hB, heap_setCell_self hb j _, by rw [List.length_set]; exact hn, hm, by simpa using hs, ?_⟩
    rw [List.length_set, Array.toList_setIfInBounds, List.take_set, ht, List.map_set]
    rfl
theorem own_cell {w : World} {B : Nat} {v : Value} {l : List UInt8} (h : OwnB w B v l) {j : Nat} (hj : j < l.length) : ∃ g c, v = .slice (some ⟨g, 0, none⟩) l.length c ∧ w.cell? ⟨g, j, none⟩ = some (u8V l[j]) ∧ w.frozen? ⟨g, j, none⟩ = false := by
  rcases h.2 with ⟨_, h0⟩ | ⟨g, cap, cur, rfl, hB, hb, hn, hm, hs, ht⟩
  · omega
  · refine ⟨g, cap, rfl, ?_, free_of_block hb j⟩
    have := World.ownsRow.cells h (g := g) rfl j (u8V l[j]) (by rw [List.getElem?_map, List.getElem?_eq_getElem hj]; rfl)
    rw [addr_at0] at this
    exact this
theorem own_ge {w : World} {B g n c : Nat} {l : List UInt8} (h : OwnB w B (.slice (some ⟨g, 0, none⟩) n c) l) : B ≤ g := by
  rcases h.2 with ⟨h0, _⟩ | ⟨g', cap, cur, e, hB, _⟩
  · cases h0
  · injection e with e1
    injection e1 with e1
    injection e1 with e1
    omega
set_option maxRecDepth 100000 in
set_option maxHeartbeats 4000000 in
theorem known2_any (w : World) (hw : LW w) (wb : Nat) (v : Value) (l : List UInt8) (hc : w.cell? ⟨wb, 0, none⟩ = some v) (h : BytesV w v l) (hn : l.length ≤ 90000) (j : Nat) (hj : j < l.length) (x : UInt8) (k : Int) (hl : (lookP (l.set j x)).1 = k) :
    Calls Tryd.prog 19 #[.int .i64 j, .int .u8 (x.toNat : Int), .pointer (some ⟨wb, 0, none⟩)] w fun e w' => e = .returned (.int .i64 k) ∧ Keeps [] w w' := by
  have HW := Lib.hid hw
  have HB := Lib.hid h
  have hca : ∀ o, (w.alloc o).cell? ⟨wb, 0, none⟩ = some v := fun o => cell_keeps (Keeps.alloc [] w o) hc (by simp)
  obtain ⟨A, c, rfl, _⟩ := h
  have hj0 : (0 : Int) ≤ (j : Int) := by omega
  have hj1 : (j : Int) < (l.length : Int) := by omega
  clear hw
  go_enter Tryd.func19, Tryd.ntmps19
  go_wp2_with (at_builtin; refine app_W rfl _ _ w ((Keeps.refl [] w).alloc' _) rfl _ ([]) rfl (OwnB.new w #[] [] rfl (by simp)) _ l rfl (HB.out.keep0 (Keeps.alloc [] w _)) (by simp; omega) ?_; intro v1 w1 ho1 hk1; rw [List.nil_append] at ho1; obtain ⟨g, c1, rfl, hcell, hfr⟩ := own_cell ho1 hj)
  obtain ⟨w2, hw2⟩ : ∃ w2, w1.setCell ⟨g, j, none⟩ (.int .u8 (x.toNat : Int)) = w2 := ⟨_, rfl⟩
  have HO2 := Lib.hid (show OwnB w2 w.heap.size _ (l.set j x) by rw [← hw2]; exact own_set ho1 x)
  have HK2 := Lib.hid (show Keeps [] w w2 by rw [← hw2]; exact Keeps.setCell' hk1 (.inl (own_ge ho1)) _)
  rw [hw2]
  have HL := Lib.hid (look_B w2 (HW.out.keep0 HK2.out) _ (l.set j x) HO2.out.bytes (by simp; omega))
  rw [hl] at HL
  clear hw2 ho1 hk1 hcell hfr hc hca
  refine HL.out.mono ?_
  rintro e w3 ⟨rfl, k3⟩
  have HK3 := Lib.hid (HK2.out.trans k3)
  clear k3 HL
  go_wp2_with fail
  go_ret
  exact ⟨rfl, HK3.out⟩
theorem bytes_cells {w : World} {g : Nat} {cs : Array Value} {t : TypeId} {z : Nat × Nat} {l : List UInt8} (hb : w.heap[g]? = some (.cells cs t z)) (h : cs.toList = l.map u8V) (hl : l.length ≤ maxLen) : BytesV w (.slice (some ⟨g, 0, none⟩) l.length l.length) l := by
  refine ⟨_, _, rfl, Nat.le_refl _, hl, fun _ => ⟨g, 0, rfl, fun i x hx => ?_⟩⟩
  rw [cell_of_block hb, Nat.zero_add, ← Array.getElem?_toList, h, List.getElem?_map, hx]
  rfl
def wHello : List UInt8 := helloB [120, 46, 121] [97, 98, 99] [] []
theorem wLen : wHello.length = 75 := by kernel_rfl
theorem wFold : foldA [120, 46, 121] = some [120, 46, 121] := by kernel_rfl
theorem dFold : foldA [97, 46, 46, 98] = none := by kernel_rfl
def rep253 : List UInt8 := Lib.repeatL [97] 253
def rep254 : List UInt8 := Lib.repeatL [97] 254
theorem rFold : foldA rep253 = some rep253 := by kernel_rfl
theorem rFold2 : foldA rep254 = none := by kernel_rfl
theorem rLen : (⟨rep253.toArray⟩ : ByteArray).size = 253 := by kernel_rfl
theorem rep_any (w : World) (c : Nat) (hc : c ≤ 1000) : Calls Tryd.prog 20 #[.string ⟨#[97]⟩, .int .i64 c] w fun e w' => e = .returned (.string ⟨(Lib.repeatL [97] c).toArray⟩) ∧ Keeps [] w w' :=
  (Any.strings_Repeat Tryd.repL Tryd.repX ⟨#[97]⟩ c w (by omega) (by show 1 * c ≤ _; omega)).mono fun e w' ⟨h, k⟩ => ⟨h, Below.keeps k⟩
theorem isLook0 : lookP [] = (0, ByteArray.empty) := by kernel_rfl
theorem isLook1 : lookP [22, 3, 1, 0] = (0, ByteArray.empty) := by kernel_rfl
theorem isLook2 : lookP [22, 2, 1, 0, 5] = (3, ByteArray.empty) := by kernel_rfl
theorem isLook3 : lookP [22, 3, 1, 0, 0] = (3, ByteArray.empty) := by kernel_rfl
theorem isLook4 : lookP [22, 3, 1, 0, 1, 2] = (3, ByteArray.empty) := by kernel_rfl
theorem isLook5 : lookP [22, 3, 9, 64, 0, 1] = (0, ByteArray.empty) := by kernel_rfl
theorem isLook6 : lookP [22, 3, 1, 64, 1] = (3, ByteArray.empty) := by kernel_rfl
theorem turnLook0 : (lookP (wHello.set 5 2)).1 = 3 := by kernel_rfl
theorem turnLook1 : (lookP (wHello.set 9 9)).1 = 1 := by kernel_rfl
theorem turnLook2 : (lookP (wHello.set 43 33)).1 = 3 := by kernel_rfl
theorem turnLook3 : (lookP (wHello.set 45 1)).1 = 3 := by kernel_rfl
set_option maxRecDepth 100000 in
set_option maxHeartbeats 16000000 in
theorem known_walk (w : World) (hw : LW w) : Calls Tryd.prog 7 #[] w fun e w' => e = .returned (.bool true) ∧ Keeps [] w w' := by
  have HW := Lib.hid hw
  have HAW := Lib.hid (awake_any w hw)
  clear hw
  obtain ⟨CM, km⟩ : ∃ C : Array Value, ∀ W, (Instr.makeSlice 22 (.int .i64 1001) (.int .i64 1001)).run Tryd.prog W = .ok (.slice (some ⟨W.heap.size, 0, none⟩) 1001 1001) (W.alloc (.cells C 5)) := by
    obtain ⟨i, hi, hz0, hz1, hz2⟩ := info_parts Tryd.infoU8
    exact ⟨_, fun W => run_make W 22 5 i _ Tryd.underlying22 hi hz0 .i64 .i64 1001 1001 (by omega) (by omega) (by rw [hz2]; decide) (by omega)⟩
  have kc := fun (w : World) (C : Array Value) (n c : Nat) => Lib.run_convert_bytes_const (P := Tryd.prog) w 22 5 C n c Tryd.underlying22 Tryd.underlying5
  go_enter Tryd.func7, Tryd.ntmps7
  go_wp2_with fail
  refine HAW.out.mono ?_
  rintro e w1 ⟨rfl, k1⟩
  have HK1 := Lib.hid k1
  clear k1 HAW
  go_wp2_with fail
  refine calls_gn fun w2 hw2 => ?_
  have hb2 : w2.heap[w1.heap.size]? = some (.cells #[.int .u8 97, .int .u8 98, .int .u8 99] 5 (3, 4)) := by rw [hw2]; exact (MapKept.heap_alloc w1 _).1
  have HK2 := Lib.hid (show Keeps [] w w2 by rw [hw2]; exact HK1.out.alloc' _)
  have HH := Lib.hid (hello_named w2 (HW.out.keep0 HK2.out) ⟨#[120, 46, 121]⟩ ⟨by decide, by decide, (foldB_some wFold).2⟩ (some ⟨w1.heap.size, 0, none⟩) none 3 0 3 0 [97, 98, 99] [] (bytes_cells (l := [97, 98, 99]) hb2 rfl (by simp [maxLen])) (BytesV.nil w2) (by omega) (by omega) none 0 0 [] ⟨rfl, Nat.le_refl _, by simp [maxLen], fun h => by omega⟩ (by omega) rfl)
  clear hw2 hb2 kc
  refine HH.out.mono ?_
  rintro e w3 ⟨v3, rfl, ho3, k3⟩
  have ho3' : OwnB w3 w2.heap.size v3 wHello := ho3
  obtain ⟨A3, c3, e3⟩ := ho3'.form
  rw [wLen] at e3
  subst e3
  have HB3 := Lib.hid (show BytesV w3 (.slice A3 75 c3) wHello from ho3'.bytes)
  have HK3 := Lib.hid (HK2.out.trans k3)
  clear ho3 ho3' k3 HH
  go_wp2_with fail
  obtain ⟨wb, hwb⟩ : ∃ wb, w3.heap.size = wb := ⟨_, rfl⟩
  refine calls_gn fun w4 hw4 => ?_
  have hc4 : w4.cell? ⟨wb, 0, none⟩ = some (.slice A3 75 c3) := by rw [hw4, ← hwb]; exact cell_of_block (MapKept.heap_alloc w3 _).1 0
  have hk34 : Keeps [] w3 w4 := by rw [hw4]; exact Keeps.alloc [] w3 _
  have HC := Lib.hid (show ∀ W, Keeps [] w4 W → W.cell? ⟨wb, 0, none⟩ = some (.slice A3 75 c3) from fun W k => cell_keeps k hc4 (by simp))
  have HB := Lib.hid (show ∀ W, Keeps [] w4 W → BytesV W (.slice A3 75 c3) wHello from fun W k => (HB3.out.keep0 hk34).keep0 k)
  have HK4 := Lib.hid (HK3.out.trans hk34)
  have HN := Lib.hid (show IntsV w4 none 0 0 [] from ⟨rfl, Nat.le_refl _, by simp [maxLen], fun h => by omega⟩)
  have H5 := Lib.hid (hello_arg w4 (HW.out.keep0 HK4.out) ⟨#[97, 46, 46, 98]⟩ ⟨by decide, foldB_none dFold⟩ none none 0 0 0 0 none 0 0 [] HN.out (by omega))
  rw [hwb]
  clear hc4 hk34 hw4 hwb
  refine H5.out.mono ?_
  rintro e w5 ⟨rfl, k5⟩
  have HR5 := Lib.hid k5
  clear k5 H5 HN
  go_wp2_with fail
  refine calls_gn fun w6 hw6 => ?_
  have hb6 : w6.heap[w5.heap.size]? = some (.cells #[.int .i64 0] 3 (0, 0)) := by rw [hw6]; exact (MapKept.heap_alloc w5 _).1
  have HR6 := Lib.hid (show Keeps [] w4 w6 by rw [hw6]; exact HR5.out.alloc' _)
  have H6 := Lib.hid (hello_low_none w6 (HW.out.keep0 (HK4.out.trans HR6.out)) ByteArray.empty rfl none none 0 0 0 0 (some ⟨w5.heap.size, 0, none⟩) 1 1 [0] ⟨rfl, Nat.le_refl _, by simp [maxLen], fun _ => ⟨w5.heap.size, 0, rfl, fun i z hz => by
    rcases i with _ | i
    · simp at hz; subst hz; exact cell_of_block hb6 0
    · simp at hz⟩⟩ (by omega) rfl)
  clear hw6 hb6
  refine H6.out.mono ?_
  rintro e w7 ⟨rfl, k7⟩
  have HR7 := Lib.hid (HR6.out.trans k7)
  clear k7 H6
  go_wp2_with fail
  refine calls_gn fun w8 hw8 => ?_
  have HR8 := Lib.hid (show Keeps [] w4 w8 by rw [hw8]; exact HR7.out.alloc' _)
  have H8 := Lib.hid (hello_long_none w8 (HW.out.keep0 (HK4.out.trans HR8.out)) ByteArray.empty rfl (some ⟨w7.heap.size, 0, none⟩) none 1001 0 1001 0 none 0 0 [] ⟨rfl, Nat.le_refl _, by simp [maxLen], fun h => by omega⟩ (by omega) rfl (.inl (by omega)))
  clear hw8 km
  refine H8.out.mono ?_
  rintro e w9 ⟨rfl, k9⟩
  have HR9 := Lib.hid (HR8.out.trans k9)
  clear k9 H8
  obtain ⟨R1, hR1⟩ : ∃ R : ByteArray, (⟨rep253.toArray⟩ : ByteArray) = R := ⟨_, rfl⟩
  obtain ⟨R2, hR2⟩ : ∃ R : ByteArray, (⟨rep254.toArray⟩ : ByteArray) = R := ⟨_, rfl⟩
  have hf1 := foldB_some rFold
  have hf2 := foldB_none rFold2
  have hs1 := rLen
  rw [hR1] at hf1 hs1
  rw [hR2] at hf2
  obtain ⟨R3, hR3⟩ : ∃ R, foldB R2 = R := ⟨_, rfl⟩
  have HP1 := Lib.hid (rep_any w9 253 (by omega))
  rw [show (⟨(Lib.repeatL [97] 253).toArray⟩ : ByteArray) = R1 from hR1] at HP1
  have HF := Lib.hid (And.intro hf1 (And.intro hf2 (And.intro hR2 hR3)))
  clear hR1 hR2 hf1 hf2 hR3
  go_wp2_with fail
  refine HP1.out.mono ?_
  rintro e w10 ⟨rfl, k10⟩
  have HR10 := Lib.hid (HR9.out.trans k10)
  have HG1 := Lib.hid (fold_any w10 (HW.out.keep0 (HK4.out.trans (HR9.out.trans k10))) R1)
  rw [HF.out.1.1, HF.out.1.2] at HG1
  clear k10 HP1
  go_wp2_with fail
  refine HG1.out.mono ?_
  rintro e w11 ⟨rfl, k11⟩
  have HR11 := Lib.hid (HR10.out.trans k11)
  have HP2 := Lib.hid (rep_any w11 254 (by omega))
  rw [show (⟨(Lib.repeatL [97] 254).toArray⟩ : ByteArray) = R2 from HF.out.2.2.1] at HP2
  clear k11 HG1
  go_wp2_with fail
  refine HP2.out.mono ?_
  rintro e w12 ⟨rfl, k12⟩
  have HR12 := Lib.hid (HR11.out.trans k12)
  have HG2 := Lib.hid (fold_any w12 (HW.out.keep0 (HK4.out.trans (HR11.out.trans k12))) R2)
  rw [HF.out.2.1, HF.out.2.2.2] at HG2
  clear k12 HP2
  go_wp2_with fail
  refine HG2.out.mono ?_
  rintro e w13 ⟨rfl, k13⟩
  have HR13 := Lib.hid (HR12.out.trans k13)
  clear k13 HG2
  go_wp2_with fail
  have HI0 := Lib.hid (known1_any w13 (HW.out.keep0 (HK4.out.trans HR13.out)) _ [] (BytesV.nil w13) (by simp) 0 isLook0)
  refine HI0.out.mono ?_
  rintro e w14 ⟨rfl, k14⟩
  have HR14 := Lib.hid (HR13.out.trans k14)
  clear k14 HI0
  go_wp2_with fail
  refine calls_gn fun w15 hw15 => ?_
  have HR15 := Lib.hid (show Keeps [] w4 w15 by rw [hw15]; exact HR14.out.alloc' _)
  have HI1 := Lib.hid (known1_any w15 (HW.out.keep0 (HK4.out.trans HR15.out)) _ [22, 3, 1, 0] (show BytesV w15 _ [22, 3, 1, 0] by rw [hw15]; exact (OwnB.new w14 #[.int .u8 22, .int .u8 3, .int .u8 1, .int .u8 0] [22, 3, 1, 0] rfl (by simp)).bytes) (by simp) 0 isLook1)
  clear hw15
  refine HI1.out.mono ?_
  rintro e w16 ⟨rfl, k16⟩
  have HR16 := Lib.hid (HR15.out.trans k16)
  clear k16 HI1
  go_wp2_with fail
  refine calls_gn fun w17 hw17 => ?_
  have HR17 := Lib.hid (show Keeps [] w4 w17 by rw [hw17]; exact HR16.out.alloc' _)
  have HI2 := Lib.hid (known1_any w17 (HW.out.keep0 (HK4.out.trans HR17.out)) _ [22, 2, 1, 0, 5] (show BytesV w17 _ [22, 2, 1, 0, 5] by rw [hw17]; exact (OwnB.new w16 #[.int .u8 22, .int .u8 2, .int .u8 1, .int .u8 0, .int .u8 5] [22, 2, 1, 0, 5] rfl (by simp)).bytes) (by simp) 3 isLook2)
  clear hw17
  refine HI2.out.mono ?_
  rintro e w18 ⟨rfl, k18⟩
  have HR18 := Lib.hid (HR17.out.trans k18)
  clear k18 HI2
  go_wp2_with fail
  refine calls_gn fun w19 hw19 => ?_
  have HR19 := Lib.hid (show Keeps [] w4 w19 by rw [hw19]; exact HR18.out.alloc' _)
  have HI3 := Lib.hid (known1_any w19 (HW.out.keep0 (HK4.out.trans HR19.out)) _ [22, 3, 1, 0, 0] (show BytesV w19 _ [22, 3, 1, 0, 0] by rw [hw19]; exact (OwnB.new w18 #[.int .u8 22, .int .u8 3, .int .u8 1, .int .u8 0, .int .u8 0] [22, 3, 1, 0, 0] rfl (by simp)).bytes) (by simp) 3 isLook3)
  clear hw19
  refine HI3.out.mono ?_
  rintro e w20 ⟨rfl, k20⟩
  have HR20 := Lib.hid (HR19.out.trans k20)
  clear k20 HI3
  go_wp2_with fail
  refine calls_gn fun w21 hw21 => ?_
  have HR21 := Lib.hid (show Keeps [] w4 w21 by rw [hw21]; exact HR20.out.alloc' _)
  have HI4 := Lib.hid (known1_any w21 (HW.out.keep0 (HK4.out.trans HR21.out)) _ [22, 3, 1, 0, 1, 2] (show BytesV w21 _ [22, 3, 1, 0, 1, 2] by rw [hw21]; exact (OwnB.new w20 #[.int .u8 22, .int .u8 3, .int .u8 1, .int .u8 0, .int .u8 1, .int .u8 2] [22, 3, 1, 0, 1, 2] rfl (by simp)).bytes) (by simp) 3 isLook4)
  clear hw21
  refine HI4.out.mono ?_
  rintro e w22 ⟨rfl, k22⟩
  have HR22 := Lib.hid (HR21.out.trans k22)
  clear k22 HI4
  go_wp2_with fail
  refine calls_gn fun w23 hw23 => ?_
  have HR23 := Lib.hid (show Keeps [] w4 w23 by rw [hw23]; exact HR22.out.alloc' _)
  have HI5 := Lib.hid (known1_any w23 (HW.out.keep0 (HK4.out.trans HR23.out)) _ [22, 3, 9, 64, 0, 1] (show BytesV w23 _ [22, 3, 9, 64, 0, 1] by rw [hw23]; exact (OwnB.new w22 #[.int .u8 22, .int .u8 3, .int .u8 9, .int .u8 64, .int .u8 0, .int .u8 1] [22, 3, 9, 64, 0, 1] rfl (by simp)).bytes) (by simp) 0 isLook5)
  clear hw23
  refine HI5.out.mono ?_
  rintro e w24 ⟨rfl, k24⟩
  have HR24 := Lib.hid (HR23.out.trans k24)
  clear k24 HI5
  go_wp2_with fail
  refine calls_gn fun w25 hw25 => ?_
  have HR25 := Lib.hid (show Keeps [] w4 w25 by rw [hw25]; exact HR24.out.alloc' _)
  have HI6 := Lib.hid (known1_any w25 (HW.out.keep0 (HK4.out.trans HR25.out)) _ [22, 3, 1, 64, 1] (show BytesV w25 _ [22, 3, 1, 64, 1] by rw [hw25]; exact (OwnB.new w24 #[.int .u8 22, .int .u8 3, .int .u8 1, .int .u8 64, .int .u8 1] [22, 3, 1, 64, 1] rfl (by simp)).bytes) (by simp) 3 isLook6)
  clear hw25
  refine HI6.out.mono ?_
  rintro e w26 ⟨rfl, k26⟩
  have HR26 := Lib.hid (HR25.out.trans k26)
  clear k26 HI6
  go_wp2_with fail
  have HT0 := Lib.hid (known2_any w26 (HW.out.keep0 (HK4.out.trans HR26.out)) wb _ wHello (HC.out w26 HR26.out) (HB.out w26 HR26.out) (by rw [wLen]; omega) 5 (by rw [wLen]; omega) 2 3 turnLook0)
  refine HT0.out.mono ?_
  rintro e w27 ⟨rfl, k27⟩
  have HR27 := Lib.hid (HR26.out.trans k27)
  clear k27 HT0
  go_wp2_with fail
  have HT1 := Lib.hid (known2_any w27 (HW.out.keep0 (HK4.out.trans HR27.out)) wb _ wHello (HC.out w27 HR27.out) (HB.out w27 HR27.out) (by rw [wLen]; omega) 9 (by rw [wLen]; omega) 9 1 turnLook1)
  refine HT1.out.mono ?_
  rintro e w28 ⟨rfl, k28⟩
  have HR28 := Lib.hid (HR27.out.trans k28)
  clear k28 HT1
  go_wp2_with fail
  have HT2 := Lib.hid (known2_any w28 (HW.out.keep0 (HK4.out.trans HR28.out)) wb _ wHello (HC.out w28 HR28.out) (HB.out w28 HR28.out) (by rw [wLen]; omega) 43 (by rw [wLen]; omega) 33 3 turnLook2)
  refine HT2.out.mono ?_
  rintro e w29 ⟨rfl, k29⟩
  have HR29 := Lib.hid (HR28.out.trans k29)
  clear k29 HT2
  go_wp2_with fail
  have HT3 := Lib.hid (known2_any w29 (HW.out.keep0 (HK4.out.trans HR29.out)) wb _ wHello (HC.out w29 HR29.out) (HB.out w29 HR29.out) (by rw [wLen]; omega) 45 (by rw [wLen]; omega) 1 3 turnLook3)
  refine HT3.out.mono ?_
  rintro e w30 ⟨rfl, k30⟩
  have HR30 := Lib.hid (HR29.out.trans k30)
  clear k30 HT3
  go_wp2_with fail
  go_ret
  exact ⟨rfl, HK4.out.trans HR30.out⟩
set_option maxRecDepth 100000 in
theorem tlsKnown_typed (W : World) (hL : LW W) : Calls Tryd.prog 7 #[] W fun e W' => e = .returned (.bool true) ∧ Below W.heap.size W W' :=
  (known_walk W hL).mono fun e W' ⟨he, k⟩ => ⟨he, k.below (Nat.le_refl _) (by simp)⟩
end Go.Proofs.YthcpeceamiibaaaDoor
