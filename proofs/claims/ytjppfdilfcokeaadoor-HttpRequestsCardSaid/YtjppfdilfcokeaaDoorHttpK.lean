/-
  The walks of culvertlaw22.looked (at any bytes) and of wakes: it is true. Condition: the library's variables lie as listed. Printed by program.
-/
import Derived.Test.YtjppfdilfcokeaaDoorHttpL
import Derived.Lib.ConvBytes
namespace Go.Proofs.YtjppfdilfcokeaaDoor
open Go.RowKit Go.Lib
set_option linter.unusedVariables false
set_option linter.unusedSimpArgs false

theorem conv_bytes (w : World) (s : List UInt8) (hs : s.length ≤ 1000000) : BytesV (bytesWorld w 5 (bs s)) (.slice (some ⟨w.heap.size, 0, none⟩) (bs s).size (grownCap w (bs s).size 0 5)) s ∧ Keeps [] w (bytesWorld w 5 (bs s)) := by
  refine ⟨⟨_, _, rfl, grownCap_ge _ _ _ _, grownCap_le_maxLen _ _ _ _ (by rw [bs_size]; simp [maxLen]; omega), fun hp => ⟨_, _, rfl, fun i x hx => ?_⟩⟩, Below.keeps ⟨rfl, rfl, rfl, by rw [bytesWorld_size]; omega, fun j hj => bytesWorld_at_old w _ (bs s) j hj⟩⟩
  have hi : i < (bs s).size := (List.getElem?_eq_some_iff.1 hx).1
  rw [Nat.zero_add, bytesWorld_cell w _ (bs s) i hi]
  have e : (bs s).data.toList.getD i 0 = x := by rw [List.getD_eq_getElem?_getD, show (bs s).data.toList[i]? = some x from hx]; rfl
  rw [e]; rfl
theorem look_B (w : World) (hw : LW w) (v : Value) (l : List UInt8) (h : BytesV w v l) (hn : l.length ≤ 90000) : Calls Tryd.prog 8 #[v] w fun en w' => en = .returned (.tuple #[.int .i64 (lookH l).1, .string (bs (lookH l).2)]) ∧ Keeps [] w w' := by
  obtain ⟨A, c, rfl, h1⟩ := h
  exact look_any w hw A l.length c l ⟨A, c, rfl, h1⟩ hn
theorem bs_inj {x y : List UInt8} : ((bs x).toList == (bs y).toList) = decide (x = y) := by
  rw [Lib.toList_data, Lib.toList_data]
  show (x == y) = decide (x = y)
  by_cases h : x = y <;> simp [h]
def lookedB (s : List UInt8) (what : Int) (nm : List UInt8) : Bool := ((lookH s).1 == what) && decide ((lookH s).2 = nm)
set_option maxRecDepth 100000 in
set_option maxHeartbeats 4000000 in
theorem looked_any (w : World) (hw : LW w) (s nm : List UInt8) (hs : s.length ≤ 90000) (what : Int) : Calls Tryd.prog 15 #[.string (bs s), .int .i64 what, .string (bs nm)] w fun e w' => e = .returned (.bool (lookedB s what nm)) ∧ Keeps [] w w' := by
  have HW := Lib.hid hw
  have hcv := Go.Lib.run_convert_string_bytes (P := Tryd.prog) w 9 22 5 (bs s) (u := .string) Tryd.underlying9 Tryd.underlying22 Tryd.underlying5
  have HCB := Lib.hid (conv_bytes w s (by omega))
  obtain ⟨res, hres⟩ : ∃ res, lookedB s what nm = res := ⟨_, rfl⟩
  rw [hres]
  have HRES := Lib.hid hres
  obtain ⟨k, hk⟩ : ∃ k, (lookH s).1 = k := ⟨_, rfl⟩
  obtain ⟨x, hx⟩ : ∃ x, (lookH s).2 = x := ⟨_, rfl⟩
  have hse := bs_inj (x := x) (y := nm)
  have hrb : res = ((k == what) && decide (x = nm)) := by rw [← hres, ← hk, ← hx]; rfl
  have HRB := Lib.hid hrb
  have HLK := Lib.hid (fun (w1 : World) (hw1 : LW w1) v (h : BytesV w1 v s) => look_B w1 hw1 v s h hs)
  rw [hk, hx] at HLK
  clear hw hres hrb hk hx
  by_cases hkw : k = what
  · have hkb : (k == what) = true := beq_iff_eq.2 hkw
    have hn : res = decide (x = nm) := by rw [HRB.out, hkb]; rfl
    subst hn
    clear hkw
    go_enter Tryd.func15, Tryd.ntmps15
    go_wp2_with fail
    refine calls_gn fun w1 hw1 => ?_
    rw [← hw1] at HCB
    clear hw1 hcv
    refine (HLK.out w1 (HW.out.keep0 HCB.out.2) _ HCB.out.1).mono ?_
    rintro e w2 ⟨rfl, k2⟩
    have HK2 := Lib.hid (HCB.out.2.trans k2)
    clear k2 HLK HCB
    go_wp2_with fail
    go_ret
    exact ⟨rfl, HK2.out⟩
  · have hkb : (k == what) = false := beq_eq_false_iff_ne.2 hkw
    have hn : res = false := by rw [HRB.out, hkb]; rfl
    subst hn
    clear hkw
    go_enter Tryd.func15, Tryd.ntmps15
    go_wp2_with fail
    refine calls_gn fun w1 hw1 => ?_
    rw [← hw1] at HCB
    clear hw1 hcv
    refine (HLK.out w1 (HW.out.keep0 HCB.out.2) _ HCB.out.1).mono ?_
    rintro e w2 ⟨rfl, k2⟩
    have HK2 := Lib.hid (HCB.out.2.trans k2)
    clear k2 HLK HCB
    go_wp2_with fail
    go_ret
    exact ⟨rfl, HK2.out⟩
theorem wake0 : lookedB [71, 69, 84, 32, 47, 32, 72, 84, 84, 80, 47, 49, 46, 49, 13, 10, 104, 79, 115, 84, 58, 9, 65, 46, 101, 120, 97, 109, 112, 108, 101, 58, 56, 48, 32, 13, 10] 1 [97, 46, 101, 120, 97, 109, 112, 108, 101] = true := by kernel_rfl
theorem wake1 : lookedB [71, 69, 84, 32, 47, 32, 72, 84, 84, 80, 47, 49, 46, 49, 13, 10, 104, 79, 115, 84, 58, 9, 65, 46, 101, 120, 97, 109, 112, 108, 101, 58, 56, 48, 32, 13] 0 [] = true := by kernel_rfl
theorem wake2 : lookedB [71, 69, 84, 32, 47, 32, 72, 84, 84, 80, 47, 49, 46, 50, 13, 10] 3 [] = true := by kernel_rfl
theorem wake3 : lookedB [71, 69, 84, 32, 104, 116, 116, 112, 58, 47, 47, 98, 46, 101, 120, 97, 109, 112, 108, 101, 47, 120, 32, 72, 84, 84, 80, 47, 49, 46, 48, 13, 10] 1 [98, 46, 101, 120, 97, 109, 112, 108, 101] = true := by kernel_rfl
theorem wake4 : lookedB [79, 80, 84, 73, 79, 78, 83, 32, 42, 32, 72, 84, 84, 80, 47, 49, 46, 49, 13, 10, 13, 10] 2 [] = true := by kernel_rfl
theorem wake5 : lookedB [71, 69, 84, 32, 47, 32, 72, 84, 84, 80, 47, 49, 46, 49, 13, 10, 32] 3 [] = true := by kernel_rfl
theorem wake6 : lookedB [103, 101, 116] 3 [] = true := by kernel_rfl
theorem wake7 : lookedB [71, 69, 84, 32, 47, 32, 72, 84, 84, 80, 47, 49, 46, 49, 13, 10, 72, 111, 115, 116, 58, 32, 97, 46, 46, 98] 3 [] = true := by kernel_rfl
set_option maxRecDepth 100000 in
set_option maxHeartbeats 4000000 in
theorem wakes_any (w : World) (hw : LW w) : Calls Tryd.prog 10 #[] w fun e w' => e = .returned (.bool true) ∧ Keeps [] w w' := by
  have HW := Lib.hid hw
  have hsz : (⟨#[71, 69, 84, 32, 47, 32, 72, 84, 84, 80, 47, 49, 46, 49, 13, 10, 104, 79, 115, 84, 58, 9, 65, 46, 101, 120, 97, 109, 112, 108, 101, 58, 56, 48, 32, 13, 10]⟩ : ByteArray).size = 37 := rfl
  have hsl : (⟨#[71, 69, 84, 32, 47, 32, 72, 84, 84, 80, 47, 49, 46, 49, 13, 10, 104, 79, 115, 84, 58, 9, 65, 46, 101, 120, 97, 109, 112, 108, 101, 58, 56, 48, 32, 13, 10]⟩ : ByteArray).extract 0 36 = bs [71, 69, 84, 32, 47, 32, 72, 84, 84, 80, 47, 49, 46, 49, 13, 10, 104, 79, 115, 84, 58, 9, 65, 46, 101, 120, 97, 109, 112, 108, 101, 58, 56, 48, 32, 13] := by kernel_rfl
  have HK := Lib.hid (Keeps.refl [] w)
  clear hw
  go_enter Tryd.func10, Tryd.ntmps10

  go_wp2_with fail
  have HL0 := Lib.hid (looked_any w (HW.out.keep0 HK.out) [71, 69, 84, 32, 47, 32, 72, 84, 84, 80, 47, 49, 46, 49, 13, 10, 104, 79, 115, 84, 58, 9, 65, 46, 101, 120, 97, 109, 112, 108, 101, 58, 56, 48, 32, 13, 10] [97, 46, 101, 120, 97, 109, 112, 108, 101] (by simp) 1)
  rw [wake0] at HL0
  refine HL0.out.mono ?_
  rintro e w0 ⟨rfl, k0⟩
  have HK0 := Lib.hid (HK.out.trans k0)
  clear k0 HL0
  go_wp2_with fail
  have HL1 := Lib.hid (looked_any w0 (HW.out.keep0 HK0.out) [71, 69, 84, 32, 47, 32, 72, 84, 84, 80, 47, 49, 46, 49, 13, 10, 104, 79, 115, 84, 58, 9, 65, 46, 101, 120, 97, 109, 112, 108, 101, 58, 56, 48, 32, 13] [] (by simp) 0)
  rw [wake1] at HL1
  refine HL1.out.mono ?_
  rintro e w1 ⟨rfl, k1⟩
  have HK1 := Lib.hid (HK0.out.trans k1)
  clear k1 HL1
  go_wp2_with fail
  have HL2 := Lib.hid (looked_any w1 (HW.out.keep0 HK1.out) [71, 69, 84, 32, 47, 32, 72, 84, 84, 80, 47, 49, 46, 50, 13, 10] [] (by simp) 3)
  rw [wake2] at HL2
  refine HL2.out.mono ?_
  rintro e w2 ⟨rfl, k2⟩
  have HK2 := Lib.hid (HK1.out.trans k2)
  clear k2 HL2
  go_wp2_with fail
  have HL3 := Lib.hid (looked_any w2 (HW.out.keep0 HK2.out) [71, 69, 84, 32, 104, 116, 116, 112, 58, 47, 47, 98, 46, 101, 120, 97, 109, 112, 108, 101, 47, 120, 32, 72, 84, 84, 80, 47, 49, 46, 48, 13, 10] [98, 46, 101, 120, 97, 109, 112, 108, 101] (by simp) 1)
  rw [wake3] at HL3
  refine HL3.out.mono ?_
  rintro e w3 ⟨rfl, k3⟩
  have HK3 := Lib.hid (HK2.out.trans k3)
  clear k3 HL3
  go_wp2_with fail
  have HL4 := Lib.hid (looked_any w3 (HW.out.keep0 HK3.out) [79, 80, 84, 73, 79, 78, 83, 32, 42, 32, 72, 84, 84, 80, 47, 49, 46, 49, 13, 10, 13, 10] [] (by simp) 2)
  rw [wake4] at HL4
  refine HL4.out.mono ?_
  rintro e w4 ⟨rfl, k4⟩
  have HK4 := Lib.hid (HK3.out.trans k4)
  clear k4 HL4
  go_wp2_with fail
  have HL5 := Lib.hid (looked_any w4 (HW.out.keep0 HK4.out) [71, 69, 84, 32, 47, 32, 72, 84, 84, 80, 47, 49, 46, 49, 13, 10, 32] [] (by simp) 3)
  rw [wake5] at HL5
  refine HL5.out.mono ?_
  rintro e w5 ⟨rfl, k5⟩
  have HK5 := Lib.hid (HK4.out.trans k5)
  clear k5 HL5
  go_wp2_with fail
  have HL6 := Lib.hid (looked_any w5 (HW.out.keep0 HK5.out) [103, 101, 116] [] (by simp) 3)
  rw [wake6] at HL6
  refine HL6.out.mono ?_
  rintro e w6 ⟨rfl, k6⟩
  have HK6 := Lib.hid (HK5.out.trans k6)
  clear k6 HL6
  go_wp2_with fail
  have HL7 := Lib.hid (looked_any w6 (HW.out.keep0 HK6.out) [71, 69, 84, 32, 47, 32, 72, 84, 84, 80, 47, 49, 46, 49, 13, 10, 72, 111, 115, 116, 58, 32, 97, 46, 46, 98] [] (by simp) 3)
  rw [wake7] at HL7
  refine HL7.out.mono ?_
  rintro e w7 ⟨rfl, k7⟩
  have HK7 := Lib.hid (HK6.out.trans k7)
  clear k7 HL7
  go_wp2_with fail
  go_ret
  exact ⟨rfl, HK7.out⟩
end Go.Proofs.YtjppfdilfcokeaaDoor
