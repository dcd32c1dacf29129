/-
  The walk of culvertlaw21.awake: it is true. Condition: the library's variables lie as listed.
-/
import Derived.Test.YthcpeceamiibaaaDoorTlsI
namespace Go.Proofs.YthcpeceamiibaaaDoor
open Go.RowKit Go.Lib
set_option linter.unusedVariables false
set_option linter.unusedSimpArgs false

def aHello : List UInt8 := helloB [65, 46, 98] [] [] []
def bHello : List UInt8 := helloB [] [] [] []
theorem aLook : lookP aHello = (1, ⟨#[97, 46, 98]⟩) := by kernel_rfl
theorem bLook : lookP bHello = (2, ByteArray.empty) := by kernel_rfl
theorem aLen : decide (aHello.length ≤ 90000) = true := by kernel_rfl
theorem bLen : decide (bHello.length ≤ 90000) = true := by kernel_rfl
theorem look16 : lookP [22] = (0, ByteArray.empty) := by kernel_rfl
theorem look17 : lookP [23] = (3, ByteArray.empty) := by kernel_rfl
theorem aFold : foldA [65, 46, 98] = some [97, 46, 98] := by kernel_rfl
theorem look_B (w : World) (hw : LW w) (v : Value) (l : List UInt8) (h : BytesV w v l) (hn : l.length ≤ 90000) : Calls Tryd.prog 13 #[v] w fun en w' => en = .returned (.tuple #[.int .i64 (lookP l).1, .string (lookP l).2]) ∧ Keeps [] w w' := by
  obtain ⟨A, c, rfl, h1⟩ := h
  exact look_any w hw A l.length c l ⟨A, c, rfl, h1⟩ hn
set_option maxRecDepth 100000 in
set_option maxHeartbeats 4000000 in
theorem awake_any (w : World) (hw : LW w) : Calls Tryd.prog 10 #[] w fun e w' => e = .returned (.bool true) ∧ Keeps [] w w' := by
  have HW := Lib.hid hw
  have HA := Lib.hid (hello_named w hw ⟨#[65, 46, 98]⟩ ⟨by decide, by decide, (foldB_some aFold).2⟩ none none 0 0 0 0 [] [] (BytesV.nil w) (BytesV.nil w) (by omega) (by omega) none 0 0 [] ⟨rfl, Nat.le_refl _, by simp [maxLen], fun h => by omega⟩ (by omega) rfl)
  clear hw
  go_enter Tryd.func10, Tryd.ntmps10
  go_wp2_with fail
  refine HA.out.mono ?_
  rintro e w1 ⟨v1, rfl, ho1, k1⟩
  have HO1 := Lib.hid (show OwnB w1 w.heap.size v1 aHello from ho1)
  have HK1 := Lib.hid k1
  have HB := Lib.hid (hello_none w1 (HW.out.keep0 k1) ByteArray.empty rfl none none 0 0 0 0 [] [] (BytesV.nil w1) (BytesV.nil w1) (by omega) (by omega) none 0 0 [] ⟨rfl, Nat.le_refl _, by simp [maxLen], fun h => by omega⟩ (by omega) rfl)
  clear ho1 k1 HA
  go_wp2_with fail
  refine HB.out.mono ?_
  rintro e w2 ⟨v2, rfl, ho2, k2⟩
  have HO2 := Lib.hid (show OwnB w2 w1.heap.size v2 bHello from ho2)
  have HK2 := Lib.hid (HK1.out.trans k2)
  have HO12 := Lib.hid (HO1.out.keep0 k2)
  clear ho2 k2 HB
  have HL1 := Lib.hid (look_B w2 (HW.out.keep0 HK2.out) v1 aHello HO12.out.bytes (of_decide_eq_true aLen))
  rw [aLook] at HL1
  go_wp2_with fail
  refine HL1.out.mono ?_
  rintro e w3 ⟨rfl, k3⟩
  have HK3 := Lib.hid (HK2.out.trans k3)
  have HL2 := Lib.hid (look_B w3 (HW.out.keep0 (HK2.out.trans k3)) v2 bHello (HO2.out.keep0 k3).bytes (of_decide_eq_true bLen))
  rw [bLook] at HL2
  clear k3 HL1
  go_wp2_with fail
  refine HL2.out.mono ?_
  rintro e w4 ⟨rfl, k4⟩
  have HK4 := Lib.hid (HK3.out.trans k4)
  clear k4 HL2
  go_wp2_with fail
  refine calls_gn fun w5 hw5 => ?_
  have k5 : Keeps [] w w5 := by rw [hw5]; exact HK4.out.alloc' _
  have HL3 := Lib.hid (look_B w5 (HW.out.keep0 k5) _ [22] (show BytesV w5 _ [22] by rw [hw5]; exact (OwnB.new w4 #[.int .u8 22] [22] rfl (by simp)).bytes) (by simp))
  rw [look16] at HL3
  have HK5 := Lib.hid k5
  clear k5 hw5
  refine HL3.out.mono ?_
  rintro e w6 ⟨rfl, k6⟩
  have HK6 := Lib.hid (HK5.out.trans k6)
  clear k6 HL3
  go_wp2_with fail
  refine calls_gn fun w7 hw7 => ?_
  have k7 : Keeps [] w w7 := by rw [hw7]; exact HK6.out.alloc' _
  have HL4 := Lib.hid (look_B w7 (HW.out.keep0 k7) _ [23] (show BytesV w7 _ [23] by rw [hw7]; exact (OwnB.new w6 #[.int .u8 23] [23] rfl (by simp)).bytes) (by simp))
  rw [look17] at HL4
  have HK7 := Lib.hid k7
  clear k7 hw7
  refine HL4.out.mono ?_
  rintro e w8 ⟨rfl, k8⟩
  have HK8 := Lib.hid (HK7.out.trans k8)
  clear k8 HL4
  go_wp2_with fail
  go_ret
  exact ⟨rfl, HK8.out⟩
end Go.Proofs.YthcpeceamiibaaaDoor
