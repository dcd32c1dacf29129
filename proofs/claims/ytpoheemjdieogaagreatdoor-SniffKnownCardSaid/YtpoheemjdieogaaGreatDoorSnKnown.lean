/-
  SniffKnown, walked: the document's examples, ends, none. Condition: the library's variables lie as listed.
-/
import Derived.Test.YtpoheemjdieogaaGreatDoorSnN
import Derived.Test.YtpoheemjdieogaaGreatDoorSnA
import Derived.Lib.SlBytesConst
namespace Go.Proofs.YtpoheemjdieogaaGreatDoor
open Go.RowKit Go.Lib
set_option linter.unusedVariables false
set_option linter.unusedSimpArgs false

theorem BytesV.const (w : World) (vs : Array Value) (l : List UInt8) (z : Nat × Nat) (h : vs.toList = l.map u8V) (hl : l.length ≤ maxLen) : BytesV (w.alloc (.cells vs 5 z)) (.slice (some ⟨w.heap.size, 0, none⟩) l.length l.length) l := by
  refine ⟨_, _, rfl, Nat.le_refl _, hl, fun _ => ⟨_, _, rfl, fun i x hx => ?_⟩⟩
  rw [cell_of_block (MapKept.heap_alloc w _).1 (0 + i), Nat.zero_add, ← Array.getElem?_toList, h, List.getElem?_map, hx]
  rfl
/-! the states of the example -/
def k0 : SS := ⟨[], 3, false, 0, ByteArray.empty⟩
def k1s : SS := ⟨[71, 69], 3, false, 0, ByteArray.empty⟩
def k2s : SS := ⟨[71, 69, 84], 3, false, 3, ByteArray.empty⟩
def k3s : SS := ⟨[71, 69, 84], 3, true, 3, ByteArray.empty⟩
def m0 : SS := ⟨[], 9, false, 0, ByteArray.empty⟩
def m1 : SS := ⟨[], 9, true, 2, ByteArray.empty⟩
theorem kl1 : lookS [71, 69] 3 false = (0, ByteArray.empty) := by kernel_rfl
theorem kl2 : lookS [71, 69, 84] 3 false = (3, ByteArray.empty) := by kernel_rfl
theorem kl3 : lookS [] 9 true = (2, ByteArray.empty) := by kernel_rfl
theorem kt1 : takeS k0 [71, 69] = (0, ⟨[71, 69], 3, false, 0, ByteArray.empty⟩) := rfl
theorem kt2 : takeS k1s [84, 32, 47] = (3, k1s) := rfl
theorem kt3 : takeS k1s [84] = (0, ⟨[71, 69, 84], 3, false, 0, ByteArray.empty⟩) := rfl
theorem kt4 : takeS k3s [] = (24, k3s) := rfl
theorem kT1 : tellS ⟨[71, 69], 3, false, 0, ByteArray.empty⟩ = k1s := by rw [tellS_zero rfl]; show SS.mk [71, 69] 3 false (lookS [71, 69] 3 false).1 (lookS [71, 69] 3 false).2 = _; rw [kl1]; rfl
theorem kT2 : tellS ⟨[71, 69, 84], 3, false, 0, ByteArray.empty⟩ = k2s := by rw [tellS_zero rfl]; show SS.mk [71, 69, 84] 3 false (lookS [71, 69, 84] 3 false).1 (lookS [71, 69, 84] 3 false).2 = _; rw [kl2]; rfl
theorem kT3 : tellS { k2s with closed := true } = k3s := tellS_ne (by decide)
theorem mT1 : tellS { m0 with closed := true } = m1 := by rw [tellS_zero rfl]; show SS.mk [] 9 true (lookS [] 9 true).1 (lookS [] 9 true).2 = _; rw [kl3]; rfl
theorem mT2 : tellS { m1 with closed := true } = m1 := tellS_ne (by decide)
theorem kOk0 : SOk k0 := ⟨by decide, by decide, by decide⟩
theorem kOk1 : SOk k1s := ⟨by decide, by decide, by decide⟩
theorem kOk2 : SOk k2s := ⟨by decide, by decide, by decide⟩
theorem kOk3 : SOk k3s := ⟨by decide, by decide, by decide⟩
theorem mOk0 : SOk m0 := ⟨by decide, by decide, by decide⟩
theorem mOk1 : SOk m1 := ⟨by decide, by decide, by decide⟩
set_option maxRecDepth 100000 in
set_option maxHeartbeats 8000000 in
theorem sknown_walk (w : World) (hw : LW w) : Calls Tryz.prog 7 #[] w fun e w' => e = .returned (.bool true) ∧ Keeps [] w w' := by
  have HW := Lib.hid hw
  have HA := Lib.hid (sawake_any w hw)
  have kc := fun (w : World) (C : Array Value) (n c : Nat) => Lib.run_convert_bytes_const (P := Tryz.prog) w 22 5 C n c Tryz.underlying22 Tryz.underlying5
  clear hw
  go_enter Tryz.func7, Tryz.ntmps7
  go_wp2_with fail
  refine HA.out.mono ?_
  rintro e w1 ⟨rfl, k1⟩
  have K1 := Lib.hid k1
  clear k1 HA
  go_wp2_with fail
  refine (snew_bad w1 0 (by omega)).mono ?_
  rintro e w1a ⟨rfl, h⟩
  obtain rfl := h.symm
  clear h
  go_wp2_with fail
  refine (snew_bad w1 16385 (by omega)).mono ?_
  rintro e w1a ⟨rfl, h⟩
  obtain rfl := h.symm
  clear h
  go_wp2_with fail
  refine (snew_ok w1 3 (by omega) (by omega)).mono ?_
  rintro e w2 ⟨p, rfl, hs2, hp2, k2⟩
  have HP := Lib.hid (show w.heap.size ≤ p by have := K1.out.size; omega)
  have K2 := Lib.hid (show Keeps [p] w w2 from (K1.out.trans k2).mono (by simp))
  have HLW := Lib.hid (fun x (k : Keeps [p] w x) => HW.out.far k (by simp; exact HP.out))
  obtain ⟨B, hB⟩ : ∃ B, p + 1 = B := ⟨_, rfl⟩
  have S2 := Lib.hid (show SnAt w2 B p k0 from SnAt.start hs2 rfl (by omega) (by have := lt_of_block hs2; omega))
  clear hs2 hp2 k2 hB K1
  go_wp2_with fail
  refine calls_gn fun w3 hw3 => ?_
  have k3 : Keeps [] w2 w3 := by rw [hw3]; exact Keeps.alloc _ _ _
  have hb3 : BytesV w3 (.slice (some ⟨w2.heap.size, 0, none⟩) 2 2) [71, 69] := by rw [hw3]; exact BytesV.const w2 _ [71, 69] _ rfl (by simp [maxLen])
  refine (stake_ok w3 B p k0 _ k1s (fun x k => HLW.out x ((K2.out.trans (k3.mono (by simp))).trans k)) (S2.out.keep0 k3) kOk0 _ 2 2 [71, 69] hb3 (by omega) kt1 kT1).mono ?_
  rintro e w4 ⟨rfl, hs4, k4⟩
  have S4 := Lib.hid hs4
  have K4 := Lib.hid ((K2.out.trans (k3.mono (by simp))).trans k4)
  clear hs4 k4 S2 K2 k3 hb3 hw3
  dsimp only [k1s]
  go_wp2_with fail
  refine calls_gn fun w5 hw5 => ?_
  have k5 : Keeps [] w4 w5 := by rw [hw5]; exact Keeps.alloc _ _ _
  have hb5 : BytesV w5 (.slice (some ⟨w4.heap.size, 0, none⟩) 3 3) [84, 32, 47] := by rw [hw5]; exact BytesV.const w4 _ [84, 32, 47] _ rfl (by simp [maxLen])
  refine (stake_no w5 B p k1s _ 3 (fun x k => HLW.out x ((K4.out.trans (k5.mono (by simp))).trans k)) (S4.out.keep0 k5) kOk1 _ 3 3 [84, 32, 47] hb5 (by omega) kt2 (by omega)).mono ?_
  rintro e w6 ⟨rfl, k6⟩
  have K6 := Lib.hid ((K4.out.trans (k5.mono (by simp))).trans (k6.mono (by simp)))
  have S6 := Lib.hid (S4.out.keep0 (k5.trans k6))
  clear k6 S4 K4 k5 hb5 hw5
  go_wp2_with fail
  refine calls_gn fun w7 hw7 => ?_
  have k7 : Keeps [] w6 w7 := by rw [hw7]; exact Keeps.alloc _ _ _
  have hb7 : BytesV w7 (.slice (some ⟨w6.heap.size, 0, none⟩) 1 1) [84] := by rw [hw7]; exact BytesV.const w6 _ [84] _ rfl (by simp [maxLen])
  refine (stake_ok w7 B p k1s _ k2s (fun x k => HLW.out x ((K6.out.trans (k7.mono (by simp))).trans k)) (S6.out.keep0 k7) kOk1 _ 1 1 [84] hb7 (by omega) kt3 kT2).mono ?_
  rintro e w8 ⟨rfl, hs8, k8⟩
  have S8 := Lib.hid hs8
  have K8 := Lib.hid ((K6.out.trans (k7.mono (by simp))).trans k8)
  clear hs8 k8 S6 K6 k7 hb7 hw7
  dsimp only [k2s]
  go_wp2_with fail
  refine (sclose_ok w8 B p k2s k3s (fun x k => HLW.out x (K8.out.trans k)) S8.out kOk2 kT3).mono ?_
  rintro e w9 ⟨rfl, hs9, k9⟩
  have S9 := Lib.hid hs9
  have K9 := Lib.hid (K8.out.trans k9)
  clear hs9 k9 S8 K8
  dsimp only [k3s]
  go_wp2_with fail
  refine (stake_no w9 B p k3s _ 24 (fun x k => HLW.out x (K9.out.trans k)) S9.out kOk3 none 0 0 [] (BytesV.nil _) (by omega) kt4 (by omega)).mono ?_
  rintro e w10 ⟨rfl, k10⟩
  have K10 := Lib.hid (K9.out.trans (k10.mono (by simp)))
  have S10 := Lib.hid (S9.out.keep0 k10)
  clear k10 S9 K9
  go_wp2_with fail
  refine (snew_ok w10 9 (by omega) (by omega)).mono ?_
  rintro e w11 ⟨q, rfl, hs11, hq11, k11⟩
  have HQ := Lib.hid (show w10.heap.size ≤ q from hq11)
  have K11 := Lib.hid (K10.out.trans (k11.mono (by simp)))
  have KB := Lib.hid (K10.out.size)
  have HLQ := Lib.hid (fun x (k : Keeps [q] w11 x) => HW.out.far ((K11.out.mono (T := [p, q]) (by simp)).trans (k.mono (by simp))) (by simp; exact ⟨HP.out, by have := HQ.out; have := KB.out; omega⟩))
  obtain ⟨Bq, hBq⟩ : ∃ Bq, q + 1 = Bq := ⟨_, rfl⟩
  have T11 := Lib.hid (show SnAt w11 Bq q m0 from SnAt.start hs11 rfl (by omega) (by have := lt_of_block hs11; omega))
  have K1011 := Lib.hid k11
  clear hs11 hq11 k11 hBq K10
  go_wp2_with fail
  refine (sclose_ok w11 Bq q m0 m1 HLQ.out T11.out mOk0 mT1).mono ?_
  rintro e w12 ⟨rfl, ht12, k12⟩
  have T12 := Lib.hid ht12
  have K12 := Lib.hid k12
  clear ht12 k12 T11
  dsimp only [m1]
  go_wp2_with fail
  refine (sclose_ok w12 Bq q m1 m1 (fun x k => HLQ.out x (K12.out.trans k)) T12.out mOk1 mT2).mono ?_
  rintro e w13 ⟨rfl, ht13, k13⟩
  have K13 := Lib.hid (K12.out.trans k13)
  clear ht13 k13 T12 K12
  dsimp only [m1]
  go_wp2_with fail
  refine (sclose_nil w13).mono ?_
  rintro e w14 ⟨rfl, k14⟩
  have K14 := Lib.hid (K13.out.trans (k14.mono (by simp)))
  clear k14 K13
  go_wp2_with fail
  refine (stold_nil w14).mono ?_
  rintro e w15 ⟨rfl, h⟩
  obtain rfl := h.symm
  clear h
  have S15 := Lib.hid (S10.out.keep0 (((K1011.out.mono (T := [q]) (by simp)).trans K14.out).far (by simp; exact HQ.out)))
  have KW := Lib.hid (show Keeps [] w w14 from ((K11.out.mono (T := [p, q]) (by simp)).trans (K14.out.mono (by simp))).far (by simp; exact ⟨HP.out, by have := HQ.out; have := KB.out; omega⟩))
  have HR := Lib.hid (sroom_any w14 B p k3s S15.out kOk3)
  rw [show ((k3s.most - k3s.b.length : Nat) : Int) = 0 from rfl] at HR
  clear S10 K1011 K14 K11
  go_wp2_with fail
  refine HR.out.mono ?_
  rintro e w16 ⟨rfl, k16⟩
  have HB := Lib.hid (sbytes_any w16 B p k3s (S15.out.keep0 k16) kOk3)
  have K16 := Lib.hid (KW.out.trans k16)
  clear k16 HR
  go_wp2_with fail
  refine HB.out.mono ?_
  rintro e w17 ⟨v17, rfl, ho17, k17⟩
  have ho' : OwnB w17 w16.heap.size v17 [71, 69, 84] := ho17
  obtain ⟨A17, c17, hv⟩ := ho'.form
  have hv' : v17 = .slice A17 3 c17 := hv
  subst hv'
  have hcs : (convert 22 9 (.slice A17 3 c17)).run Tryz.prog w17 = .ok (.string ⟨#[71, 69, 84]⟩) w17 := (show BytesV w17 (.slice A17 3 c17) [71, 69, 84] from ho'.bytes).str0 22 9 5 Tryz.underlying22 Tryz.underlying5 Tryz.underlying9
  have K17 := Lib.hid (K16.out.trans k17)
  clear k17 HB ho17 ho' hv
  go_wp2_with fail
  refine (sbytes_nil w17).mono ?_
  rintro e w18 ⟨rfl, h⟩
  obtain rfl := h.symm
  clear h
  go_wp2_with fail
  refine (sroom_nil w17).mono ?_
  rintro e w19 ⟨rfl, h⟩
  obtain rfl := h.symm
  clear h
  go_wp2_with fail
  go_ret
  exact ⟨rfl, K17.out⟩
end Go.Proofs.YtpoheemjdieogaaGreatDoor
