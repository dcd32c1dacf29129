/-
  The walks of package http's tests of one byte. Printed by program. No condition.
-/
import Derived.Test.YtocnkiojlifgpaaGreatDoorPolL
import Derived.Test.YtocnkiojlifgpaaGreatDoorHttpP
import Derived.Test.YtocnkiojlifgpaaGreatDoorKitB
import Derived.Lib.Hide
namespace Go.Proofs.YtocnkiojlifgpaaGreatDoor
open Go.RowKit Go.Lib
set_option linter.unusedVariables false
set_option linter.unusedSimpArgs false

set_option maxRecDepth 100000 in
theorem marks_all : ∀ i : Fin 256, (Lib.indexByte marksL (UInt8.ofNat i.val) ≥ 0) = (marksL.contains (UInt8.ofNat i.val) = true) := by decide
theorem marks_eq (x : UInt8) : (Lib.indexByte marksL x ≥ 0) ↔ marksL.contains x = true := by
  have := marks_all ⟨x.toNat, x.toNat_lt⟩
  simp only [UInt8.ofNat_toNat] at this
  exact iff_of_eq this

set_option maxRecDepth 100000 in
set_option maxHeartbeats 8000000 in
theorem capital_any (w : World) (x : UInt8) : Calls Tryz.prog 63 #[.int .u8 x.toNat] w fun e w' => e = .returned (.bool (capB x)) ∧ w' = w := by
  obtain ⟨c, hc⟩ : ∃ c : Int, (x.toNat : Int) = c := ⟨_, rfl⟩
  by_cases h0 : 65 ≤ c
  · skip
    by_cases h1 : c ≤ 90
    · skip
      have q0 : decide (65 ≤ x.toNat) = true := by exact decide_eq_true (by omega)
      have q1 : decide (x.toNat ≤ 90) = true := by exact decide_eq_true (by omega)
      have HP : capB x = true := by unfold capB; rw [q0, q1]; rfl
      rw [HP, hc]
      clear HP
      clear q0
      clear q1
      clear hc
      go_enter Tryz.func63, Tryz.ntmps63
      go_wp2_with fail
      go_ret
      exact ⟨by first | rfl | (simp <;> omega) | (simp [*] <;> omega), rfl⟩
    · skip
      replace h1 : 90 < c := by omega
      have q0 : decide (65 ≤ x.toNat) = true := by exact decide_eq_true (by omega)
      have q1 : decide (x.toNat ≤ 90) = false := by exact decide_eq_false (by omega)
      have HP : capB x = false := by unfold capB; rw [q0, q1]; rfl
      rw [HP, hc]
      clear HP
      clear q0
      clear q1
      clear hc
      go_enter Tryz.func63, Tryz.ntmps63
      go_wp2_with fail
      go_ret
      exact ⟨by first | rfl | (simp <;> omega) | (simp [*] <;> omega), rfl⟩
  · skip
    replace h0 : c < 65 := by omega
    have q0 : decide (65 ≤ x.toNat) = false := by exact decide_eq_false (by omega)
    have HP : capB x = false := by unfold capB; rw [q0]; rfl
    rw [HP, hc]
    clear HP
    clear q0
    clear hc
    go_enter Tryz.func63, Tryz.ntmps63
    go_wp2_with fail
    go_ret
    exact ⟨by first | rfl | (simp <;> omega) | (simp [*] <;> omega), rfl⟩
set_option maxRecDepth 100000 in
set_option maxHeartbeats 8000000 in
theorem digit_any (w : World) (x : UInt8) : Calls Tryz.prog 65 #[.int .u8 x.toNat] w fun e w' => e = .returned (.bool (digB x)) ∧ w' = w := by
  obtain ⟨c, hc⟩ : ∃ c : Int, (x.toNat : Int) = c := ⟨_, rfl⟩
  by_cases h0 : 48 ≤ c
  · skip
    by_cases h1 : c ≤ 57
    · skip
      have q0 : decide (48 ≤ x.toNat) = true := by exact decide_eq_true (by omega)
      have q1 : decide (x.toNat ≤ 57) = true := by exact decide_eq_true (by omega)
      have HP : digB x = true := by unfold digB; rw [q0, q1]; rfl
      rw [HP, hc]
      clear HP
      clear q0
      clear q1
      clear hc
      go_enter Tryz.func65, Tryz.ntmps65
      go_wp2_with fail
      go_ret
      exact ⟨by first | rfl | (simp <;> omega) | (simp [*] <;> omega), rfl⟩
    · skip
      replace h1 : 57 < c := by omega
      have q0 : decide (48 ≤ x.toNat) = true := by exact decide_eq_true (by omega)
      have q1 : decide (x.toNat ≤ 57) = false := by exact decide_eq_false (by omega)
      have HP : digB x = false := by unfold digB; rw [q0, q1]; rfl
      rw [HP, hc]
      clear HP
      clear q0
      clear q1
      clear hc
      go_enter Tryz.func65, Tryz.ntmps65
      go_wp2_with fail
      go_ret
      exact ⟨by first | rfl | (simp <;> omega) | (simp [*] <;> omega), rfl⟩
  · skip
    replace h0 : c < 48 := by omega
    have q0 : decide (48 ≤ x.toNat) = false := by exact decide_eq_false (by omega)
    have HP : digB x = false := by unfold digB; rw [q0]; rfl
    rw [HP, hc]
    clear HP
    clear q0
    clear hc
    go_enter Tryz.func65, Tryz.ntmps65
    go_wp2_with fail
    go_ret
    exact ⟨by first | rfl | (simp <;> omega) | (simp [*] <;> omega), rfl⟩
set_option maxRecDepth 100000 in
set_option maxHeartbeats 8000000 in
theorem small_any (w : World) (x : UInt8) : Calls Tryz.prog 64 #[.int .u8 x.toNat] w fun e w' => e = .returned (.bool (smallB x)) ∧ w' = w := by
  obtain ⟨c, hc⟩ : ∃ c : Int, (x.toNat : Int) = c := ⟨_, rfl⟩
  by_cases h0 : 97 ≤ c
  · skip
    by_cases h1 : c ≤ 122
    · skip
      have q0 : decide (97 ≤ x.toNat) = true := by exact decide_eq_true (by omega)
      have q1 : decide (x.toNat ≤ 122) = true := by exact decide_eq_true (by omega)
      have HP : smallB x = true := by unfold smallB; rw [q0, q1]; rfl
      rw [HP, hc]
      clear HP
      clear q0
      clear q1
      clear hc
      go_enter Tryz.func64, Tryz.ntmps64
      go_wp2_with fail
      go_ret
      exact ⟨by first | rfl | (simp <;> omega) | (simp [*] <;> omega), rfl⟩
    · skip
      replace h1 : 122 < c := by omega
      have q0 : decide (97 ≤ x.toNat) = true := by exact decide_eq_true (by omega)
      have q1 : decide (x.toNat ≤ 122) = false := by exact decide_eq_false (by omega)
      have HP : smallB x = false := by unfold smallB; rw [q0, q1]; rfl
      rw [HP, hc]
      clear HP
      clear q0
      clear q1
      clear hc
      go_enter Tryz.func64, Tryz.ntmps64
      go_wp2_with fail
      go_ret
      exact ⟨by first | rfl | (simp <;> omega) | (simp [*] <;> omega), rfl⟩
  · skip
    replace h0 : c < 97 := by omega
    have q0 : decide (97 ≤ x.toNat) = false := by exact decide_eq_false (by omega)
    have HP : smallB x = false := by unfold smallB; rw [q0]; rfl
    rw [HP, hc]
    clear HP
    clear q0
    clear hc
    go_enter Tryz.func64, Tryz.ntmps64
    go_wp2_with fail
    go_ret
    exact ⟨by first | rfl | (simp <;> omega) | (simp [*] <;> omega), rfl⟩
set_option maxRecDepth 100000 in
set_option maxHeartbeats 8000000 in
theorem blank_any (w : World) (x : UInt8) : Calls Tryz.prog 67 #[.int .u8 x.toNat] w fun e w' => e = .returned (.bool (blankB x)) ∧ w' = w := by
  obtain ⟨c, hc⟩ : ∃ c : Int, (x.toNat : Int) = c := ⟨_, rfl⟩
  by_cases h0 : c = 32
  · skip
    have q0 : decide (x.toNat = 32) = true := by exact decide_eq_true (by omega)
    have HP : blankB x = true := by unfold blankB; rw [q0]; rfl
    rw [HP, hc]
    clear HP
    clear q0
    clear hc
    go_enter Tryz.func67, Tryz.ntmps67
    go_wp2_with fail
    go_ret
    exact ⟨by first | rfl | (simp <;> omega) | (simp [*] <;> omega), rfl⟩
  · skip
    by_cases h1 : c = 9
    · skip
      have q0 : decide (x.toNat = 32) = false := by exact decide_eq_false (by omega)
      have q1 : decide (x.toNat = 9) = true := by exact decide_eq_true (by omega)
      have HP : blankB x = true := by unfold blankB; rw [q0, q1]; rfl
      rw [HP, hc]
      clear HP
      clear q0
      clear q1
      clear hc
      go_enter Tryz.func67, Tryz.ntmps67
      go_wp2_with fail
      go_ret
      exact ⟨by first | rfl | (simp <;> omega) | (simp [*] <;> omega), rfl⟩
    · skip
      have q0 : decide (x.toNat = 32) = false := by exact decide_eq_false (by omega)
      have q1 : decide (x.toNat = 9) = false := by exact decide_eq_false (by omega)
      have HP : blankB x = false := by unfold blankB; rw [q0, q1]; rfl
      rw [HP, hc]
      clear HP
      clear q0
      clear q1
      clear hc
      go_enter Tryz.func67, Tryz.ntmps67
      go_wp2_with fail
      go_ret
      exact ⟨by first | rfl | (simp <;> omega) | (simp [*] <;> omega), rfl⟩
set_option maxRecDepth 100000 in
set_option maxHeartbeats 8000000 in
theorem seen_any (w : World) (x : UInt8) : Calls Tryz.prog 68 #[.int .u8 x.toNat] w fun e w' => e = .returned (.bool (seenB x)) ∧ w' = w := by
  obtain ⟨c, hc⟩ : ∃ c : Int, (x.toNat : Int) = c := ⟨_, rfl⟩
  by_cases h0 : 32 < c
  · skip
    by_cases h1 : c < 127
    · skip
      have q0 : decide (32 < x.toNat) = true := by exact decide_eq_true (by omega)
      have q1 : decide (x.toNat < 127) = true := by exact decide_eq_true (by omega)
      have HP : seenB x = true := by unfold seenB; rw [q0, q1]; rfl
      rw [HP, hc]
      clear HP
      clear q0
      clear q1
      clear hc
      go_enter Tryz.func68, Tryz.ntmps68
      go_wp2_with fail
      go_ret
      exact ⟨by first | rfl | (simp <;> omega) | (simp [*] <;> omega), rfl⟩
    · skip
      replace h1 : 127 ≤ c := by omega
      have q0 : decide (32 < x.toNat) = true := by exact decide_eq_true (by omega)
      have q1 : decide (x.toNat < 127) = false := by exact decide_eq_false (by omega)
      have HP : seenB x = false := by unfold seenB; rw [q0, q1]; rfl
      rw [HP, hc]
      clear HP
      clear q0
      clear q1
      clear hc
      go_enter Tryz.func68, Tryz.ntmps68
      go_wp2_with fail
      go_ret
      exact ⟨by first | rfl | (simp <;> omega) | (simp [*] <;> omega), rfl⟩
  · skip
    replace h0 : c ≤ 32 := by omega
    have q0 : decide (32 < x.toNat) = false := by exact decide_eq_false (by omega)
    have HP : seenB x = false := by unfold seenB; rw [q0]; rfl
    rw [HP, hc]
    clear HP
    clear q0
    clear hc
    go_enter Tryz.func68, Tryz.ntmps68
    go_wp2_with fail
    go_ret
    exact ⟨by first | rfl | (simp <;> omega) | (simp [*] <;> omega), rfl⟩
set_option maxRecDepth 100000 in
set_option maxHeartbeats 8000000 in
theorem shown_any (w : World) (x : UInt8) : Calls Tryz.prog 23 #[.int .u8 x.toNat] w fun e w' => e = .returned (.bool (shownB x)) ∧ w' = w := by
  obtain ⟨c, hc⟩ : ∃ c : Int, (x.toNat : Int) = c := ⟨_, rfl⟩
  cases h0 : blankB x
  · skip
    cases h1 : seenB x
    · skip
      by_cases h2 : 128 ≤ c
      · skip
        have q2 : decide (128 ≤ x.toNat) = true := by exact decide_eq_true (by omega)
        have HP : shownB x = true := by unfold shownB; rw [h0, h1, q2]; rfl
        rw [HP, hc]
        clear HP
        have C0 := Lib.hid (blank_any w x)
        rw [h0, hc] at C0
        have C1 := Lib.hid (seen_any w x)
        rw [h1, hc] at C1
        clear h0
        clear h1
        clear q2
        clear hc
        go_enter Tryz.func23, Tryz.ntmps23
        go_wp2_with fail
        refine C0.out.mono ?_
        rintro e w0 ⟨rfl, hw0⟩
        obtain rfl := hw0.symm
        clear hw0
        go_wp2_with fail
        refine C1.out.mono ?_
        rintro e w1 ⟨rfl, hw1⟩
        obtain rfl := hw1.symm
        clear hw1
        go_wp2_with fail
        go_ret
        exact ⟨by first | rfl | (simp <;> omega) | (simp [*] <;> omega), rfl⟩
      · skip
        replace h2 : c < 128 := by omega
        have q2 : decide (128 ≤ x.toNat) = false := by exact decide_eq_false (by omega)
        have HP : shownB x = false := by unfold shownB; rw [h0, h1, q2]; rfl
        rw [HP, hc]
        clear HP
        have C0 := Lib.hid (blank_any w x)
        rw [h0, hc] at C0
        have C1 := Lib.hid (seen_any w x)
        rw [h1, hc] at C1
        clear h0
        clear h1
        clear q2
        clear hc
        go_enter Tryz.func23, Tryz.ntmps23
        go_wp2_with fail
        refine C0.out.mono ?_
        rintro e w0 ⟨rfl, hw0⟩
        obtain rfl := hw0.symm
        clear hw0
        go_wp2_with fail
        refine C1.out.mono ?_
        rintro e w1 ⟨rfl, hw1⟩
        obtain rfl := hw1.symm
        clear hw1
        go_wp2_with fail
        go_ret
        exact ⟨by first | rfl | (simp <;> omega) | (simp [*] <;> omega), rfl⟩
    · skip
      have HP : shownB x = true := by unfold shownB; rw [h0, h1]; rfl
      rw [HP, hc]
      clear HP
      have C0 := Lib.hid (blank_any w x)
      rw [h0, hc] at C0
      have C1 := Lib.hid (seen_any w x)
      rw [h1, hc] at C1
      clear h0
      clear h1
      clear hc
      go_enter Tryz.func23, Tryz.ntmps23
      go_wp2_with fail
      refine C0.out.mono ?_
      rintro e w0 ⟨rfl, hw0⟩
      obtain rfl := hw0.symm
      clear hw0
      go_wp2_with fail
      refine C1.out.mono ?_
      rintro e w1 ⟨rfl, hw1⟩
      obtain rfl := hw1.symm
      clear hw1
      go_wp2_with fail
      go_ret
      exact ⟨by first | rfl | (simp <;> omega) | (simp [*] <;> omega), rfl⟩
  · skip
    have HP : shownB x = true := by unfold shownB; rw [h0]; rfl
    rw [HP, hc]
    clear HP
    have C0 := Lib.hid (blank_any w x)
    rw [h0, hc] at C0
    clear h0
    clear hc
    go_enter Tryz.func23, Tryz.ntmps23
    go_wp2_with fail
    refine C0.out.mono ?_
    rintro e w0 ⟨rfl, hw0⟩
    obtain rfl := hw0.symm
    clear hw0
    go_wp2_with fail
    go_ret
    exact ⟨by first | rfl | (simp <;> omega) | (simp [*] <;> omega), rfl⟩
set_option maxRecDepth 100000 in
set_option maxHeartbeats 8000000 in
theorem worded_any (w : World) (x : UInt8) : Calls Tryz.prog 22 #[.int .u8 x.toNat] w fun e w' => e = .returned (.bool (wordB x)) ∧ w' = w := by
  obtain ⟨c, hc⟩ : ∃ c : Int, (x.toNat : Int) = c := ⟨_, rfl⟩
  cases h0 : capB x
  · skip
    cases h1 : smallB x
    · skip
      cases h2 : digB x
      · skip
        cases h3 : marksL.contains x
        · skip
          have HP : wordB x = false := by unfold wordB; rw [h0, h1, h2, h3]; rfl
          rw [HP, hc]
          clear HP
          have C0 := Lib.hid (capital_any w x)
          rw [h0, hc] at C0
          have C1 := Lib.hid (small_any w x)
          rw [h1, hc] at C1
          have C2 := Lib.hid (digit_any w x)
          rw [h2, hc] at C2
          have C3 := Lib.hid (Any.strings_IndexByte Tryz.ibL ⟨marksL.toArray⟩ (x.toNat : Int) w)
          have hx : ((x.toNat : Int).toNat.toUInt8) = x := by rw [Int.toNat_natCast]; exact UInt8.ofNat_toNat
          rw [hx] at C3
          obtain ⟨ix, hix⟩ : ∃ ix : Int, Lib.indexByte marksL x = ix := ⟨_, rfl⟩
          have hge : ix < 0 := by have := marks_eq x; rw [h3, hix] at this; simp at this; omega
          rw [show (ByteArray.mk marksL.toArray).data.toList = marksL from rfl, hix, hc] at C3
          clear hix hx
          clear h0
          clear h1
          clear h2
          clear h3
          clear hc
          go_enter Tryz.func22, Tryz.ntmps22
          go_wp2_with fail
          refine C0.out.mono ?_
          rintro e w0 ⟨rfl, hw0⟩
          obtain rfl := hw0.symm
          clear hw0
          go_wp2_with fail
          refine C1.out.mono ?_
          rintro e w1 ⟨rfl, hw1⟩
          obtain rfl := hw1.symm
          clear hw1
          go_wp2_with fail
          refine C2.out.mono ?_
          rintro e w2 ⟨rfl, hw2⟩
          obtain rfl := hw2.symm
          clear hw2
          go_wp2_with fail
          refine C3.out.mono ?_
          rintro e w3 ⟨rfl, hw3⟩
          obtain rfl := hw3.symm
          clear hw3
          go_wp2_with fail
          go_ret
          exact ⟨by first | rfl | (simp <;> omega) | (simp [*] <;> omega), rfl⟩
        · skip
          have HP : wordB x = true := by unfold wordB; rw [h0, h1, h2, h3]; rfl
          rw [HP, hc]
          clear HP
          have C0 := Lib.hid (capital_any w x)
          rw [h0, hc] at C0
          have C1 := Lib.hid (small_any w x)
          rw [h1, hc] at C1
          have C2 := Lib.hid (digit_any w x)
          rw [h2, hc] at C2
          have C3 := Lib.hid (Any.strings_IndexByte Tryz.ibL ⟨marksL.toArray⟩ (x.toNat : Int) w)
          have hx : ((x.toNat : Int).toNat.toUInt8) = x := by rw [Int.toNat_natCast]; exact UInt8.ofNat_toNat
          rw [hx] at C3
          obtain ⟨ix, hix⟩ : ∃ ix : Int, Lib.indexByte marksL x = ix := ⟨_, rfl⟩
          have hge : 0 ≤ ix := by have := marks_eq x; rw [h3, hix] at this; simp at this; omega
          rw [show (ByteArray.mk marksL.toArray).data.toList = marksL from rfl, hix, hc] at C3
          clear hix hx
          clear h0
          clear h1
          clear h2
          clear h3
          clear hc
          go_enter Tryz.func22, Tryz.ntmps22
          go_wp2_with fail
          refine C0.out.mono ?_
          rintro e w0 ⟨rfl, hw0⟩
          obtain rfl := hw0.symm
          clear hw0
          go_wp2_with fail
          refine C1.out.mono ?_
          rintro e w1 ⟨rfl, hw1⟩
          obtain rfl := hw1.symm
          clear hw1
          go_wp2_with fail
          refine C2.out.mono ?_
          rintro e w2 ⟨rfl, hw2⟩
          obtain rfl := hw2.symm
          clear hw2
          go_wp2_with fail
          refine C3.out.mono ?_
          rintro e w3 ⟨rfl, hw3⟩
          obtain rfl := hw3.symm
          clear hw3
          go_wp2_with fail
          go_ret
          exact ⟨by first | rfl | (simp <;> omega) | (simp [*] <;> omega), rfl⟩
      · skip
        have HP : wordB x = true := by unfold wordB; rw [h0, h1, h2]; rfl
        rw [HP, hc]
        clear HP
        have C0 := Lib.hid (capital_any w x)
        rw [h0, hc] at C0
        have C1 := Lib.hid (small_any w x)
        rw [h1, hc] at C1
        have C2 := Lib.hid (digit_any w x)
        rw [h2, hc] at C2
        clear h0
        clear h1
        clear h2
        clear hc
        go_enter Tryz.func22, Tryz.ntmps22
        go_wp2_with fail
        refine C0.out.mono ?_
        rintro e w0 ⟨rfl, hw0⟩
        obtain rfl := hw0.symm
        clear hw0
        go_wp2_with fail
        refine C1.out.mono ?_
        rintro e w1 ⟨rfl, hw1⟩
        obtain rfl := hw1.symm
        clear hw1
        go_wp2_with fail
        refine C2.out.mono ?_
        rintro e w2 ⟨rfl, hw2⟩
        obtain rfl := hw2.symm
        clear hw2
        go_wp2_with fail
        go_ret
        exact ⟨by first | rfl | (simp <;> omega) | (simp [*] <;> omega), rfl⟩
    · skip
      have HP : wordB x = true := by unfold wordB; rw [h0, h1]; rfl
      rw [HP, hc]
      clear HP
      have C0 := Lib.hid (capital_any w x)
      rw [h0, hc] at C0
      have C1 := Lib.hid (small_any w x)
      rw [h1, hc] at C1
      clear h0
      clear h1
      clear hc
      go_enter Tryz.func22, Tryz.ntmps22
      go_wp2_with fail
      refine C0.out.mono ?_
      rintro e w0 ⟨rfl, hw0⟩
      obtain rfl := hw0.symm
      clear hw0
      go_wp2_with fail
      refine C1.out.mono ?_
      rintro e w1 ⟨rfl, hw1⟩
      obtain rfl := hw1.symm
      clear hw1
      go_wp2_with fail
      go_ret
      exact ⟨by first | rfl | (simp <;> omega) | (simp [*] <;> omega), rfl⟩
  · skip
    have HP : wordB x = true := by unfold wordB; rw [h0]; rfl
    rw [HP, hc]
    clear HP
    have C0 := Lib.hid (capital_any w x)
    rw [h0, hc] at C0
    clear h0
    clear hc
    go_enter Tryz.func22, Tryz.ntmps22
    go_wp2_with fail
    refine C0.out.mono ?_
    rintro e w0 ⟨rfl, hw0⟩
    obtain rfl := hw0.symm
    clear hw0
    go_wp2_with fail
    go_ret
    exact ⟨by first | rfl | (simp <;> omega) | (simp [*] <;> omega), rfl⟩
set_option maxRecDepth 100000 in
set_option maxHeartbeats 8000000 in
theorem hosted_any (w : World) (x : UInt8) : Calls Tryz.prog 277 #[.int .u8 x.toNat] w fun e w' => e = .returned (.bool (hostB x)) ∧ w' = w := by
  obtain ⟨c, hc⟩ : ∃ c : Int, (x.toNat : Int) = c := ⟨_, rfl⟩
  cases h0 : capB x
  · skip
    cases h1 : smallB x
    · skip
      cases h2 : digB x
      · skip
        by_cases h3 : c = 45
        · skip
          have q3 : decide (x.toNat = 45) = true := by exact decide_eq_true (by omega)
          have HP : hostB x = true := by unfold hostB; rw [h0, h1, h2, q3]; rfl
          rw [HP, hc]
          clear HP
          have C0 := Lib.hid (capital_any w x)
          rw [h0, hc] at C0
          have C1 := Lib.hid (small_any w x)
          rw [h1, hc] at C1
          have C2 := Lib.hid (digit_any w x)
          rw [h2, hc] at C2
          clear h0
          clear h1
          clear h2
          clear q3
          clear hc
          subst h3
          go_enter Tryz.func277, Tryz.ntmps277
          go_wp2_with fail
          refine C0.out.mono ?_
          rintro e w0 ⟨rfl, hw0⟩
          obtain rfl := hw0.symm
          clear hw0
          go_wp2_with fail
          refine C1.out.mono ?_
          rintro e w1 ⟨rfl, hw1⟩
          obtain rfl := hw1.symm
          clear hw1
          go_wp2_with fail
          refine C2.out.mono ?_
          rintro e w2 ⟨rfl, hw2⟩
          obtain rfl := hw2.symm
          clear hw2
          go_wp2_with fail
          go_ret
          exact ⟨by first | rfl | (simp <;> omega) | (simp [*] <;> omega), rfl⟩
        · skip
          by_cases h4 : c = 95
          · skip
            have q3 : decide (x.toNat = 45) = false := by exact decide_eq_false (by omega)
            have q4 : decide (x.toNat = 95) = true := by exact decide_eq_true (by omega)
            have HP : hostB x = true := by unfold hostB; rw [h0, h1, h2, q3, q4]; rfl
            rw [HP, hc]
            clear HP
            have C0 := Lib.hid (capital_any w x)
            rw [h0, hc] at C0
            have C1 := Lib.hid (small_any w x)
            rw [h1, hc] at C1
            have C2 := Lib.hid (digit_any w x)
            rw [h2, hc] at C2
            clear h0
            clear h1
            clear h2
            clear q3
            clear q4
            clear hc
            subst h4
            go_enter Tryz.func277, Tryz.ntmps277
            go_wp2_with fail
            refine C0.out.mono ?_
            rintro e w0 ⟨rfl, hw0⟩
            obtain rfl := hw0.symm
            clear hw0
            go_wp2_with fail
            refine C1.out.mono ?_
            rintro e w1 ⟨rfl, hw1⟩
            obtain rfl := hw1.symm
            clear hw1
            go_wp2_with fail
            refine C2.out.mono ?_
            rintro e w2 ⟨rfl, hw2⟩
            obtain rfl := hw2.symm
            clear hw2
            go_wp2_with fail
            go_ret
            exact ⟨by first | rfl | (simp <;> omega) | (simp [*] <;> omega), rfl⟩
          · skip
            by_cases h5 : c = 46
            · skip
              have q3 : decide (x.toNat = 45) = false := by exact decide_eq_false (by omega)
              have q4 : decide (x.toNat = 95) = false := by exact decide_eq_false (by omega)
              have q5 : decide (x.toNat = 46) = true := by exact decide_eq_true (by omega)
              have HP : hostB x = true := by unfold hostB; rw [h0, h1, h2, q3, q4, q5]; rfl
              rw [HP, hc]
              clear HP
              have C0 := Lib.hid (capital_any w x)
              rw [h0, hc] at C0
              have C1 := Lib.hid (small_any w x)
              rw [h1, hc] at C1
              have C2 := Lib.hid (digit_any w x)
              rw [h2, hc] at C2
              clear h0
              clear h1
              clear h2
              clear q3
              clear q4
              clear q5
              clear hc
              subst h5
              go_enter Tryz.func277, Tryz.ntmps277
              go_wp2_with fail
              refine C0.out.mono ?_
              rintro e w0 ⟨rfl, hw0⟩
              obtain rfl := hw0.symm
              clear hw0
              go_wp2_with fail
              refine C1.out.mono ?_
              rintro e w1 ⟨rfl, hw1⟩
              obtain rfl := hw1.symm
              clear hw1
              go_wp2_with fail
              refine C2.out.mono ?_
              rintro e w2 ⟨rfl, hw2⟩
              obtain rfl := hw2.symm
              clear hw2
              go_wp2_with fail
              go_ret
              exact ⟨by first | rfl | (simp <;> omega) | (simp [*] <;> omega), rfl⟩
            · skip
              have q3 : decide (x.toNat = 45) = false := by exact decide_eq_false (by omega)
              have q4 : decide (x.toNat = 95) = false := by exact decide_eq_false (by omega)
              have q5 : decide (x.toNat = 46) = false := by exact decide_eq_false (by omega)
              have HP : hostB x = false := by unfold hostB; rw [h0, h1, h2, q3, q4, q5]; rfl
              rw [HP, hc]
              clear HP
              have C0 := Lib.hid (capital_any w x)
              rw [h0, hc] at C0
              have C1 := Lib.hid (small_any w x)
              rw [h1, hc] at C1
              have C2 := Lib.hid (digit_any w x)
              rw [h2, hc] at C2
              clear h0
              clear h1
              clear h2
              clear q3
              clear q4
              clear q5
              clear hc
              go_enter Tryz.func277, Tryz.ntmps277
              go_wp2_with fail
              refine C0.out.mono ?_
              rintro e w0 ⟨rfl, hw0⟩
              obtain rfl := hw0.symm
              clear hw0
              go_wp2_with fail
              refine C1.out.mono ?_
              rintro e w1 ⟨rfl, hw1⟩
              obtain rfl := hw1.symm
              clear hw1
              go_wp2_with fail
              refine C2.out.mono ?_
              rintro e w2 ⟨rfl, hw2⟩
              obtain rfl := hw2.symm
              clear hw2
              go_wp2_with fail
              go_ret
              exact ⟨by first | rfl | (simp <;> omega) | (simp [*] <;> omega), rfl⟩
      · skip
        have HP : hostB x = true := by unfold hostB; rw [h0, h1, h2]; rfl
        rw [HP, hc]
        clear HP
        have C0 := Lib.hid (capital_any w x)
        rw [h0, hc] at C0
        have C1 := Lib.hid (small_any w x)
        rw [h1, hc] at C1
        have C2 := Lib.hid (digit_any w x)
        rw [h2, hc] at C2
        clear h0
        clear h1
        clear h2
        clear hc
        go_enter Tryz.func277, Tryz.ntmps277
        go_wp2_with fail
        refine C0.out.mono ?_
        rintro e w0 ⟨rfl, hw0⟩
        obtain rfl := hw0.symm
        clear hw0
        go_wp2_with fail
        refine C1.out.mono ?_
        rintro e w1 ⟨rfl, hw1⟩
        obtain rfl := hw1.symm
        clear hw1
        go_wp2_with fail
        refine C2.out.mono ?_
        rintro e w2 ⟨rfl, hw2⟩
        obtain rfl := hw2.symm
        clear hw2
        go_wp2_with fail
        go_ret
        exact ⟨by first | rfl | (simp <;> omega) | (simp [*] <;> omega), rfl⟩
    · skip
      have HP : hostB x = true := by unfold hostB; rw [h0, h1]; rfl
      rw [HP, hc]
      clear HP
      have C0 := Lib.hid (capital_any w x)
      rw [h0, hc] at C0
      have C1 := Lib.hid (small_any w x)
      rw [h1, hc] at C1
      clear h0
      clear h1
      clear hc
      go_enter Tryz.func277, Tryz.ntmps277
      go_wp2_with fail
      refine C0.out.mono ?_
      rintro e w0 ⟨rfl, hw0⟩
      obtain rfl := hw0.symm
      clear hw0
      go_wp2_with fail
      refine C1.out.mono ?_
      rintro e w1 ⟨rfl, hw1⟩
      obtain rfl := hw1.symm
      clear hw1
      go_wp2_with fail
      go_ret
      exact ⟨by first | rfl | (simp <;> omega) | (simp [*] <;> omega), rfl⟩
  · skip
    have HP : hostB x = true := by unfold hostB; rw [h0]; rfl
    rw [HP, hc]
    clear HP
    have C0 := Lib.hid (capital_any w x)
    rw [h0, hc] at C0
    clear h0
    clear hc
    go_enter Tryz.func277, Tryz.ntmps277
    go_wp2_with fail
    refine C0.out.mono ?_
    rintro e w0 ⟨rfl, hw0⟩
    obtain rfl := hw0.symm
    clear hw0
    go_wp2_with fail
    go_ret
    exact ⟨by first | rfl | (simp <;> omega) | (simp [*] <;> omega), rfl⟩
set_option maxRecDepth 100000 in
set_option maxHeartbeats 8000000 in
theorem star_any (w : World) (x : UInt8) : Calls Tryz.prog 273 #[.int .u8 x.toNat] w fun e w' => e = .returned (.bool (starB x)) ∧ w' = w := by
  obtain ⟨c, hc⟩ : ∃ c : Int, (x.toNat : Int) = c := ⟨_, rfl⟩
  by_cases h0 : c = 42
  · skip
    have q0 : decide (x.toNat = 42) = true := by exact decide_eq_true (by omega)
    have HP : starB x = true := by unfold starB; rw [q0]; rfl
    rw [HP, hc]
    clear HP
    clear q0
    clear hc
    go_enter Tryz.func273, Tryz.ntmps273
    go_wp2_with fail
    go_ret
    exact ⟨by first | rfl | (simp <;> omega) | (simp [*] <;> omega), rfl⟩
  · skip
    by_cases h1 : c = 47
    · skip
      have q0 : decide (x.toNat = 42) = false := by exact decide_eq_false (by omega)
      have q1 : decide (x.toNat = 47) = true := by exact decide_eq_true (by omega)
      have HP : starB x = true := by unfold starB; rw [q0, q1]; rfl
      rw [HP, hc]
      clear HP
      clear q0
      clear q1
      clear hc
      go_enter Tryz.func273, Tryz.ntmps273
      go_wp2_with fail
      go_ret
      exact ⟨by first | rfl | (simp <;> omega) | (simp [*] <;> omega), rfl⟩
    · skip
      by_cases h2 : c = 104
      · skip
        have q0 : decide (x.toNat = 42) = false := by exact decide_eq_false (by omega)
        have q1 : decide (x.toNat = 47) = false := by exact decide_eq_false (by omega)
        have q2 : decide (x.toNat = 104) = true := by exact decide_eq_true (by omega)
        have HP : starB x = true := by unfold starB; rw [q0, q1, q2]; rfl
        rw [HP, hc]
        clear HP
        clear q0
        clear q1
        clear q2
        clear hc
        go_enter Tryz.func273, Tryz.ntmps273
        go_wp2_with fail
        go_ret
        exact ⟨by first | rfl | (simp <;> omega) | (simp [*] <;> omega), rfl⟩
      · skip
        have q0 : decide (x.toNat = 42) = false := by exact decide_eq_false (by omega)
        have q1 : decide (x.toNat = 47) = false := by exact decide_eq_false (by omega)
        have q2 : decide (x.toNat = 104) = false := by exact decide_eq_false (by omega)
        have HP : starB x = false := by unfold starB; rw [q0, q1, q2]; rfl
        rw [HP, hc]
        clear HP
        clear q0
        clear q1
        clear q2
        clear hc
        go_enter Tryz.func273, Tryz.ntmps273
        go_wp2_with fail
        go_ret
        exact ⟨by first | rfl | (simp <;> omega) | (simp [*] <;> omega), rfl⟩
set_option maxRecDepth 100000 in
set_option maxHeartbeats 8000000 in
theorem zeroone_any (w : World) (x : UInt8) : Calls Tryz.prog 274 #[.int .u8 x.toNat] w fun e w' => e = .returned (.bool (zerooneB x)) ∧ w' = w := by
  obtain ⟨c, hc⟩ : ∃ c : Int, (x.toNat : Int) = c := ⟨_, rfl⟩
  by_cases h0 : c = 48
  · skip
    have q0 : decide (x.toNat = 48) = true := by exact decide_eq_true (by omega)
    have HP : zerooneB x = true := by unfold zerooneB; rw [q0]; rfl
    rw [HP, hc]
    clear HP
    clear q0
    clear hc
    go_enter Tryz.func274, Tryz.ntmps274
    go_wp2_with fail
    go_ret
    exact ⟨by first | rfl | (simp <;> omega) | (simp [*] <;> omega), rfl⟩
  · skip
    by_cases h1 : c = 49
    · skip
      have q0 : decide (x.toNat = 48) = false := by exact decide_eq_false (by omega)
      have q1 : decide (x.toNat = 49) = true := by exact decide_eq_true (by omega)
      have HP : zerooneB x = true := by unfold zerooneB; rw [q0, q1]; rfl
      rw [HP, hc]
      clear HP
      clear q0
      clear q1
      clear hc
      go_enter Tryz.func274, Tryz.ntmps274
      go_wp2_with fail
      go_ret
      exact ⟨by first | rfl | (simp <;> omega) | (simp [*] <;> omega), rfl⟩
    · skip
      have q0 : decide (x.toNat = 48) = false := by exact decide_eq_false (by omega)
      have q1 : decide (x.toNat = 49) = false := by exact decide_eq_false (by omega)
      have HP : zerooneB x = false := by unfold zerooneB; rw [q0, q1]; rfl
      rw [HP, hc]
      clear HP
      clear q0
      clear q1
      clear hc
      go_enter Tryz.func274, Tryz.ntmps274
      go_wp2_with fail
      go_ret
      exact ⟨by first | rfl | (simp <;> omega) | (simp [*] <;> omega), rfl⟩
end Go.Proofs.YtocnkiojlifgpaaGreatDoor
