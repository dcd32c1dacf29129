/-
  The walk of culvertlaw23.awake: it is true. Condition: the library's variables lie as listed.
-/
import Derived.Test.YtpoheemjdieogaaGreatDoorSnW
import Derived.Test.YtpoheemjdieogaaGreatDoorHttpE
import Derived.Test.YtpoheemjdieogaaGreatDoorTlsC
namespace Go.Proofs.YtpoheemjdieogaaGreatDoor
open Go.RowKit Go.Lib
set_option linter.unusedVariables false
set_option linter.unusedSimpArgs false

def hReq : List UInt8 := reqB [65, 46, 98] []
def tHel : List UInt8 := helloB [120, 46, 121] [] [] []
theorem sA1 : lookS hReq 16384 false = (1, ⟨#[97, 46, 98]⟩) := by kernel_rfl
theorem sA2 : lookS tHel 16384 false = (1, ⟨#[120, 46, 121]⟩) := by kernel_rfl
theorem sA3 : lookS [] 16384 true = (2, ByteArray.empty) := by kernel_rfl
theorem sA4 : lookS [22] 1 false = (3, ByteArray.empty) := by kernel_rfl
theorem sA5 : reqR [65, 46, 98] [] = (hReq, 0) := by kernel_rfl
theorem sA6 : foldA [120, 46, 121] = some [120, 46, 121] := by kernel_rfl
theorem sA7 : decide (hReq.length ≤ 90000) = true := by kernel_rfl
theorem sA8 : decide (tHel.length ≤ 90000) = true := by kernel_rfl
theorem fields_nil (w : World) : FieldsV w none 0 0 [] := ⟨rfl, Nat.le_refl _, fun h => by omega⟩
set_option maxRecDepth 100000 in
set_option maxHeartbeats 4000000 in
theorem sawake_any (w : World) (hw : LW w) : Calls Tryz.prog 11 #[] w fun e w' => e = .returned (.bool true) ∧ Keeps [] w w' := by
  have HW := Lib.hid hw
  have HA := Lib.hid (request_any w hw [65, 46, 98] none 0 0 [] (fields_nil w) (by omega) (fun f hf => by cases hf) (fun f hf => by cases hf))
  rw [sA5] at HA
  clear hw
  go_enter Tryz.func11, Tryz.ntmps11
  go_wp2_with fail
  refine HA.out.mono ?_
  rintro e w1 ⟨v1, rfl, ho1, k1⟩
  have HO1 := Lib.hid ho1
  have HK1 := Lib.hid k1
  have HB := Lib.hid (hello_named w1 (HW.out.keep0 k1) ⟨#[120, 46, 121]⟩ ⟨by decide, by decide, (foldB_some sA6).2⟩ none none 0 0 0 0 [] [] (BytesV.nil w1) (BytesV.nil w1) (by omega) (by omega) none 0 0 [] ⟨rfl, Nat.le_refl _, by simp [maxLen], fun h => by omega⟩ (by omega) rfl)
  clear ho1 k1 HA
  go_wp2_with fail
  refine HB.out.mono ?_
  rintro e w2 ⟨v2, rfl, ho2, k2⟩
  have HO2 := Lib.hid (show OwnB w2 w1.heap.size v2 tHel from ho2)
  have HK2 := Lib.hid (HK1.out.trans k2)
  have HL1 := Lib.hid (Slook_B w2 (HW.out.keep0 HK2.out) v1 hReq (HO1.out.keep0 k2) (of_decide_eq_true sA7) 16384 false)
  rw [sA1] at HL1
  clear ho2 k2 HB
  go_wp2_with fail
  refine HL1.out.mono ?_
  rintro e w3 ⟨rfl, k3⟩
  have HK3 := Lib.hid (HK2.out.trans k3)
  have HL2 := Lib.hid (Slook_B w3 (HW.out.keep0 (HK2.out.trans k3)) v2 tHel (HO2.out.keep0 k3).bytes (of_decide_eq_true sA8) 16384 false)
  rw [sA2] at HL2
  clear k3 HL1
  go_wp2_with fail
  refine HL2.out.mono ?_
  rintro e w4 ⟨rfl, k4⟩
  have HK4 := Lib.hid (HK3.out.trans k4)
  have HL0 := Lib.hid (Slook_any w4 (HW.out.keep0 (HK3.out.trans k4)) none 0 0 [] (BytesV.nil w4) (by omega) 16384 true)
  rw [sA3] at HL0
  clear k4 HL2
  go_wp2_with fail
  refine HL0.out.mono ?_
  rintro e w5 ⟨rfl, k5⟩
  have HK5 := Lib.hid (HK4.out.trans k5)
  clear k5 HL0
  go_wp2_with fail
  refine calls_gn fun w6 hw6 => ?_
  have k6 : Keeps [] w w6 := by rw [hw6]; exact HK5.out.alloc' _
  have HL3 := Lib.hid (Slook_B w6 (HW.out.keep0 k6) _ [22] (show BytesV w6 _ [22] by rw [hw6]; exact (OwnB.new w5 #[.int .u8 22] [22] rfl (by simp)).bytes) (by simp) 1 false)
  rw [sA4] at HL3
  have HK6 := Lib.hid k6
  clear k6 hw6
  refine HL3.out.mono ?_
  rintro e w7 ⟨rfl, k7⟩
  have HK7 := Lib.hid (HK6.out.trans k7)
  clear k7 HL3
  go_wp2_with fail
  go_ret
  exact ⟨rfl, HK7.out⟩
end Go.Proofs.YtpoheemjdieogaaGreatDoor
