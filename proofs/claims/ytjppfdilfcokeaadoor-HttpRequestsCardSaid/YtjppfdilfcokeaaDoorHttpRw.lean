/-
  The walks of the document's own tests of one byte (culvertref22). Printed by program. No condition.
-/
import Derived.Test.YtjppfdilfcokeaaDoorHttpX
import Derived.Deep.LoopGhost
namespace Go.Proofs.YtjppfdilfcokeaaDoor
open Go.RowKit Go.Lib
set_option linter.unusedVariables false
set_option linter.unusedSimpArgs false

def rseenB (c : UInt8) : Bool := decide (33 ≤ c.toNat) && decide (c.toNat ≤ 126)
def rletB (c : UInt8) : Bool := capB c || smallB c
theorem rseen_eq (c : UInt8) : rseenB c = seenB c := by
  unfold rseenB seenB
  rw [show decide (33 ≤ c.toNat) = decide (32 < c.toNat) from decide_eq_decide.2 (by omega), show decide (c.toNat ≤ 126) = decide (c.toNat < 127) from decide_eq_decide.2 (by omega)]

set_option maxRecDepth 100000 in
set_option maxHeartbeats 8000000 in
theorem rcapital_any (w : World) (x : UInt8) : Calls Tryd.prog 67 #[.int .u8 x.toNat] w fun e w' => e = .returned (.bool (capB x)) ∧ w' = w := by
  obtain ⟨c, hc⟩ : ∃ c : Int, (x.toNat : Int) = c := ⟨_, rfl⟩
  by_cases h0 : 65 ≤ c
  · skip
    by_cases h1 : c ≤ 90
    · skip
      have q0 : decide (65 ≤ x.toNat) = true := by exact decide_eq_true (by omega)
      have q1 : decide (x.toNat ≤ 90) = true := by exact decide_eq_true (by omega)
      have HP : capB x = true := by unfold capB; rw [q0, q1]; rfl
      rw [HP, hc]
      clear HP
      clear q0
      clear q1
      clear hc
      go_enter Tryd.func67, Tryd.ntmps67
      go_wp2_with fail
      go_ret
      exact ⟨by first | rfl | (simp <;> omega) | (simp [*] <;> omega), rfl⟩
    · skip
      replace h1 : 90 < c := by omega
      have q0 : decide (65 ≤ x.toNat) = true := by exact decide_eq_true (by omega)
      have q1 : decide (x.toNat ≤ 90) = false := by exact decide_eq_false (by omega)
      have HP : capB x = false := by unfold capB; rw [q0, q1]; rfl
      rw [HP, hc]
      clear HP
      clear q0
      clear q1
      clear hc
      go_enter Tryd.func67, Tryd.ntmps67
      go_wp2_with fail
      go_ret
      exact ⟨by first | rfl | (simp <;> omega) | (simp [*] <;> omega), rfl⟩
  · skip
    replace h0 : c < 65 := by omega
    have q0 : decide (65 ≤ x.toNat) = false := by exact decide_eq_false (by omega)
    have HP : capB x = false := by unfold capB; rw [q0]; rfl
    rw [HP, hc]
    clear HP
    clear q0
    clear hc
    go_enter Tryd.func67, Tryd.ntmps67
    go_wp2_with fail
    go_ret
    exact ⟨by first | rfl | (simp <;> omega) | (simp [*] <;> omega), rfl⟩
set_option maxRecDepth 100000 in
set_option maxHeartbeats 8000000 in
theorem rdigit_any (w : World) (x : UInt8) : Calls Tryd.prog 69 #[.int .u8 x.toNat] w fun e w' => e = .returned (.bool (digB x)) ∧ w' = w := by
  obtain ⟨c, hc⟩ : ∃ c : Int, (x.toNat : Int) = c := ⟨_, rfl⟩
  by_cases h0 : 48 ≤ c
  · skip
    by_cases h1 : c ≤ 57
    · skip
      have q0 : decide (48 ≤ x.toNat) = true := by exact decide_eq_true (by omega)
      have q1 : decide (x.toNat ≤ 57) = true := by exact decide_eq_true (by omega)
      have HP : digB x = true := by unfold digB; rw [q0, q1]; rfl
      rw [HP, hc]
      clear HP
      clear q0
      clear q1
      clear hc
      go_enter Tryd.func69, Tryd.ntmps69
      go_wp2_with fail
      go_ret
      exact ⟨by first | rfl | (simp <;> omega) | (simp [*] <;> omega), rfl⟩
    · skip
      replace h1 : 57 < c := by omega
      have q0 : decide (48 ≤ x.toNat) = true := by exact decide_eq_true (by omega)
      have q1 : decide (x.toNat ≤ 57) = false := by exact decide_eq_false (by omega)
      have HP : digB x = false := by unfold digB; rw [q0, q1]; rfl
      rw [HP, hc]
      clear HP
      clear q0
      clear q1
      clear hc
      go_enter Tryd.func69, Tryd.ntmps69
      go_wp2_with fail
      go_ret
      exact ⟨by first | rfl | (simp <;> omega) | (simp [*] <;> omega), rfl⟩
  · skip
    replace h0 : c < 48 := by omega
    have q0 : decide (48 ≤ x.toNat) = false := by exact decide_eq_false (by omega)
    have HP : digB x = false := by unfold digB; rw [q0]; rfl
    rw [HP, hc]
    clear HP
    clear q0
    clear hc
    go_enter Tryd.func69, Tryd.ntmps69
    go_wp2_with fail
    go_ret
    exact ⟨by first | rfl | (simp <;> omega) | (simp [*] <;> omega), rfl⟩
set_option maxRecDepth 100000 in
set_option maxHeartbeats 8000000 in
theorem rblank_any (w : World) (x : UInt8) : Calls Tryd.prog 70 #[.int .u8 x.toNat] w fun e w' => e = .returned (.bool (blankB x)) ∧ w' = w := by
  obtain ⟨c, hc⟩ : ∃ c : Int, (x.toNat : Int) = c := ⟨_, rfl⟩
  by_cases h0 : c = 32
  · skip
    have q0 : decide (x.toNat = 32) = true := by exact decide_eq_true (by omega)
    have HP : blankB x = true := by unfold blankB; rw [q0]; rfl
    rw [HP, hc]
    clear HP
    clear q0
    clear hc
    go_enter Tryd.func70, Tryd.ntmps70
    go_wp2_with fail
    go_ret
    exact ⟨by first | rfl | (simp <;> omega) | (simp [*] <;> omega), rfl⟩
  · skip
    by_cases h1 : c = 9
    · skip
      have q0 : decide (x.toNat = 32) = false := by exact decide_eq_false (by omega)
      have q1 : decide (x.toNat = 9) = true := by exact decide_eq_true (by omega)
      have HP : blankB x = true := by unfold blankB; rw [q0, q1]; rfl
      rw [HP, hc]
      clear HP
      clear q0
      clear q1
      clear hc
      go_enter Tryd.func70, Tryd.ntmps70
      go_wp2_with fail
      go_ret
      exact ⟨by first | rfl | (simp <;> omega) | (simp [*] <;> omega), rfl⟩
    · skip
      have q0 : decide (x.toNat = 32) = false := by exact decide_eq_false (by omega)
      have q1 : decide (x.toNat = 9) = false := by exact decide_eq_false (by omega)
      have HP : blankB x = false := by unfold blankB; rw [q0, q1]; rfl
      rw [HP, hc]
      clear HP
      clear q0
      clear q1
      clear hc
      go_enter Tryd.func70, Tryd.ntmps70
      go_wp2_with fail
      go_ret
      exact ⟨by first | rfl | (simp <;> omega) | (simp [*] <;> omega), rfl⟩
set_option maxRecDepth 100000 in
set_option maxHeartbeats 8000000 in
theorem rseen_any (w : World) (x : UInt8) : Calls Tryd.prog 71 #[.int .u8 x.toNat] w fun e w' => e = .returned (.bool (rseenB x)) ∧ w' = w := by
  obtain ⟨c, hc⟩ : ∃ c : Int, (x.toNat : Int) = c := ⟨_, rfl⟩
  by_cases h0 : 33 ≤ c
  · skip
    by_cases h1 : c ≤ 126
    · skip
      have q0 : decide (33 ≤ x.toNat) = true := by exact decide_eq_true (by omega)
      have q1 : decide (x.toNat ≤ 126) = true := by exact decide_eq_true (by omega)
      have HP : rseenB x = true := by unfold rseenB; rw [q0, q1]; rfl
      rw [HP, hc]
      clear HP
      clear q0
      clear q1
      clear hc
      go_enter Tryd.func71, Tryd.ntmps71
      go_wp2_with fail
      go_ret
      exact ⟨by first | rfl | (simp <;> omega) | (simp [*] <;> omega), rfl⟩
    · skip
      replace h1 : 126 < c := by omega
      have q0 : decide (33 ≤ x.toNat) = true := by exact decide_eq_true (by omega)
      have q1 : decide (x.toNat ≤ 126) = false := by exact decide_eq_false (by omega)
      have HP : rseenB x = false := by unfold rseenB; rw [q0, q1]; rfl
      rw [HP, hc]
      clear HP
      clear q0
      clear q1
      clear hc
      go_enter Tryd.func71, Tryd.ntmps71
      go_wp2_with fail
      go_ret
      exact ⟨by first | rfl | (simp <;> omega) | (simp [*] <;> omega), rfl⟩
  · skip
    replace h0 : c < 33 := by omega
    have q0 : decide (33 ≤ x.toNat) = false := by exact decide_eq_false (by omega)
    have HP : rseenB x = false := by unfold rseenB; rw [q0]; rfl
    rw [HP, hc]
    clear HP
    clear q0
    clear hc
    go_enter Tryd.func71, Tryd.ntmps71
    go_wp2_with fail
    go_ret
    exact ⟨by first | rfl | (simp <;> omega) | (simp [*] <;> omega), rfl⟩
theorem rseen2_any (w : World) (x : UInt8) : Calls Tryd.prog 71 #[.int .u8 x.toNat] w fun e w' => e = .returned (.bool (seenB x)) ∧ w' = w := by
  have := rseen_any w x
  rw [rseen_eq] at this
  exact this

set_option maxRecDepth 100000 in
set_option maxHeartbeats 8000000 in
theorem rshown_any (w : World) (x : UInt8) : Calls Tryd.prog 34 #[.int .u8 x.toNat] w fun e w' => e = .returned (.bool (shownB x)) ∧ w' = w := by
  obtain ⟨c, hc⟩ : ∃ c : Int, (x.toNat : Int) = c := ⟨_, rfl⟩
  cases h0 : blankB x
  · skip
    cases h1 : seenB x
    · skip
      by_cases h2 : 128 ≤ c
      · skip
        have q2 : decide (128 ≤ x.toNat) = true := by exact decide_eq_true (by omega)
        have HP : shownB x = true := by unfold shownB; rw [h0, h1, q2]; rfl
        rw [HP, hc]
        clear HP
        have C0 := Lib.hid (rblank_any w x)
        rw [h0, hc] at C0
        have C1 := Lib.hid (rseen2_any w x)
        rw [h1, hc] at C1
        clear h0
        clear h1
        clear q2
        clear hc
        go_enter Tryd.func34, Tryd.ntmps34
        go_wp2_with fail
        refine C0.out.mono ?_
        rintro e w0 ⟨rfl, hw0⟩
        obtain rfl := hw0.symm
        clear hw0
        go_wp2_with fail
        refine C1.out.mono ?_
        rintro e w1 ⟨rfl, hw1⟩
        obtain rfl := hw1.symm
        clear hw1
        go_wp2_with fail
        go_ret
        exact ⟨by first | rfl | (simp <;> omega) | (simp [*] <;> omega), rfl⟩
      · skip
        replace h2 : c < 128 := by omega
        have q2 : decide (128 ≤ x.toNat) = false := by exact decide_eq_false (by omega)
        have HP : shownB x = false := by unfold shownB; rw [h0, h1, q2]; rfl
        rw [HP, hc]
        clear HP
        have C0 := Lib.hid (rblank_any w x)
        rw [h0, hc] at C0
        have C1 := Lib.hid (rseen2_any w x)
        rw [h1, hc] at C1
        clear h0
        clear h1
        clear q2
        clear hc
        go_enter Tryd.func34, Tryd.ntmps34
        go_wp2_with fail
        refine C0.out.mono ?_
        rintro e w0 ⟨rfl, hw0⟩
        obtain rfl := hw0.symm
        clear hw0
        go_wp2_with fail
        refine C1.out.mono ?_
        rintro e w1 ⟨rfl, hw1⟩
        obtain rfl := hw1.symm
        clear hw1
        go_wp2_with fail
        go_ret
        exact ⟨by first | rfl | (simp <;> omega) | (simp [*] <;> omega), rfl⟩
    · skip
      have HP : shownB x = true := by unfold shownB; rw [h0, h1]; rfl
      rw [HP, hc]
      clear HP
      have C0 := Lib.hid (rblank_any w x)
      rw [h0, hc] at C0
      have C1 := Lib.hid (rseen2_any w x)
      rw [h1, hc] at C1
      clear h0
      clear h1
      clear hc
      go_enter Tryd.func34, Tryd.ntmps34
      go_wp2_with fail
      refine C0.out.mono ?_
      rintro e w0 ⟨rfl, hw0⟩
      obtain rfl := hw0.symm
      clear hw0
      go_wp2_with fail
      refine C1.out.mono ?_
      rintro e w1 ⟨rfl, hw1⟩
      obtain rfl := hw1.symm
      clear hw1
      go_wp2_with fail
      go_ret
      exact ⟨by first | rfl | (simp <;> omega) | (simp [*] <;> omega), rfl⟩
  · skip
    have HP : shownB x = true := by unfold shownB; rw [h0]; rfl
    rw [HP, hc]
    clear HP
    have C0 := Lib.hid (rblank_any w x)
    rw [h0, hc] at C0
    clear h0
    clear hc
    go_enter Tryd.func34, Tryd.ntmps34
    go_wp2_with fail
    refine C0.out.mono ?_
    rintro e w0 ⟨rfl, hw0⟩
    obtain rfl := hw0.symm
    clear hw0
    go_wp2_with fail
    go_ret
    exact ⟨by first | rfl | (simp <;> omega) | (simp [*] <;> omega), rfl⟩
set_option maxRecDepth 100000 in
set_option maxHeartbeats 8000000 in
theorem rletter_any (w : World) (x : UInt8) : Calls Tryd.prog 68 #[.int .u8 x.toNat] w fun e w' => e = .returned (.bool (rletB x)) ∧ w' = w := by
  obtain ⟨c, hc⟩ : ∃ c : Int, (x.toNat : Int) = c := ⟨_, rfl⟩
  have C0 := Lib.hid (rcapital_any w x)
  cases h0 : capB x
  · rw [h0] at C0
    by_cases h1 : 97 ≤ c
    · by_cases h2 : c ≤ 122
      · have HP : rletB x = true := by unfold rletB smallB; rw [h0, show decide (97 ≤ x.toNat) = true from decide_eq_true (by omega), show decide (x.toNat ≤ 122) = true from decide_eq_true (by omega)]; rfl
        rw [HP, hc]
        rw [hc] at C0
        clear HP hc
        go_enter Tryd.func68, Tryd.ntmps68
        go_wp2_with fail
        refine C0.out.mono ?_
        rintro e w0 ⟨rfl, hw0⟩
        obtain rfl := hw0.symm
        clear hw0
        go_wp2_with fail
        go_ret
        exact ⟨by first | rfl | (simp <;> omega) | (simp [*] <;> omega), rfl⟩
      · replace h2 : 122 < c := by omega
        have HP : rletB x = false := by unfold rletB smallB; rw [h0, show decide (97 ≤ x.toNat) = true from decide_eq_true (by omega), show decide (x.toNat ≤ 122) = false from decide_eq_false (by omega)]; rfl
        rw [HP, hc]
        rw [hc] at C0
        clear HP hc
        go_enter Tryd.func68, Tryd.ntmps68
        go_wp2_with fail
        refine C0.out.mono ?_
        rintro e w0 ⟨rfl, hw0⟩
        obtain rfl := hw0.symm
        clear hw0
        go_wp2_with fail
        go_ret
        exact ⟨by first | rfl | (simp <;> omega) | (simp [*] <;> omega), rfl⟩
    · replace h1 : c < 97 := by omega
      have HP : rletB x = false := by unfold rletB smallB; rw [h0, show decide (97 ≤ x.toNat) = false from decide_eq_false (by omega)]; rfl
      rw [HP, hc]
      rw [hc] at C0
      clear HP hc
      go_enter Tryd.func68, Tryd.ntmps68
      go_wp2_with fail
      refine C0.out.mono ?_
      rintro e w0 ⟨rfl, hw0⟩
      obtain rfl := hw0.symm
      clear hw0
      go_wp2_with fail
      go_ret
      exact ⟨by first | rfl | (simp <;> omega) | (simp [*] <;> omega), rfl⟩
  · rw [h0] at C0
    have HP : rletB x = true := by unfold rletB; rw [h0]; rfl
    rw [HP, hc]
    rw [hc] at C0
    clear HP hc
    go_enter Tryd.func68, Tryd.ntmps68
    go_wp2_with fail
    refine C0.out.mono ?_
    rintro e w0 ⟨rfl, hw0⟩
    obtain rfl := hw0.symm
    clear hw0
    go_wp2_with fail
    go_ret
    exact ⟨by first | rfl | (simp <;> omega) | (simp [*] <;> omega), rfl⟩
def marksB : ByteArray := ⟨marksL.toArray⟩
theorem rword_none {x : UInt8} (h : marksL.contains x = false) : wordB x = (rletB x || digB x) := by unfold wordB rletB; rw [h, Bool.or_false]
theorem rword_some {x : UInt8} (h : marksL.contains x = true) : wordB x = true := by unfold wordB; rw [h, Bool.or_true]
set_option maxRecDepth 100000 in
set_option maxHeartbeats 8000000 in
theorem rworded_any (w : World) (x : UInt8) : Calls Tryd.prog 33 #[.int .u8 x.toNat] w fun e w' => e = .returned (.bool (wordB x)) ∧ w' = w := by
  have HM := Lib.hid (show ∀ i y, marksL[i]? = some y → y = x → wordB x = true from fun i y hy he => by
    subst he
    exact rword_some (List.contains_iff_mem.2 (List.mem_of_getElem? hy)))
  obtain ⟨res, hres⟩ : ∃ res, wordB x = res := ⟨_, rfl⟩
  have HRES := Lib.hid hres
  have hsz : marksB.size = 15 := rfl
  have CL := Lib.hid (rletter_any w x)
  have CD := Lib.hid (rdigit_any w x)
  rw [hres]
  clear hres
  go_enter Tryd.func33, Tryd.ntmps33
  go_wp2_with fail
  go_loopg [4] 15 (fun g v wx => wx = w ∧ ∃ i : Nat, i + g = 15 ∧ v = .int .i64 i ∧ ∀ (j : Nat) y, j < i → marksL[j]? = some y → y ≠ x)
  case atStart => exact ⟨rfl, 0, by omega, rfl, fun j y h => absurd h (Nat.not_lt_zero _)⟩
  case round =>
    obtain ⟨rfl, i, hig, rfl, hinv⟩ := hrel
    have HI := Lib.hid hinv
    clear hinv
    cases gk with
    | zero =>
      obtain rfl : i = 15 := by omega
      have hc : marksL.contains x = false := by
        cases hc : marksL.contains x with
        | false => rfl
        | true =>
          obtain ⟨j, hj⟩ := List.mem_iff_getElem?.1 (List.contains_iff_mem.1 hc)
          have hjl : j < 15 := (List.getElem?_eq_some_iff.1 hj).1
          exact absurd rfl (HI.out j x hjl hj)
      have hr := rword_none hc
      rw [HRES.out] at hr
      have HR := Lib.hid hr
      clear hc hr
      cases hl : rletB x with
      | true =>
        have hn : res = true := by rw [HR.out, hl]; rfl
        subst hn
        rw [hl] at CL
        go_wp2_with (first | (go_at_call 68; refine CL.out.mono ?_; rintro e w1 ⟨rfl, hw1⟩; obtain rfl := hw1.symm; clear hw1))
        go_ret
        exact ⟨rfl, rfl⟩
      | false =>
        have hn : res = digB x := by rw [HR.out, hl]; rfl
        subst hn
        rw [hl] at CL
        go_wp2_with (first | (go_at_call 68; refine CL.out.mono ?_; rintro e w1 ⟨rfl, hw1⟩; obtain rfl := hw1.symm; clear hw1) | (go_at_call 69; refine CD.out.mono ?_; rintro e w1 ⟨rfl, hw1⟩; obtain rfl := hw1.symm; clear hw1))
        go_ret
        exact ⟨rfl, rfl⟩
    | succ g =>
      have hi15 : (i : Int) < 15 := by omega
      have hil : i < marksL.length := by show i < 15; omega
      obtain ⟨y, hy⟩ : ∃ y, marksL[i]? = some y := ⟨_, List.getElem?_eq_getElem hil⟩
      have hgy : (⟨#[33, 35, 36, 37, 38, 39, 42, 43, 45, 46, 94, 95, 96, 124, 126]⟩ : ByteArray)[i]'(by show i < 15; omega) = y := bs_take marksL i y hy _
      have HY := Lib.hid hy
      by_cases hxy : y = x
      · have hn : res = true := by rw [← HRES.out]; exact HM.out i y hy hxy
        subst hn
        have hb : ((y.toNat : Int) == (x.toNat : Int)) = true := by rw [hxy]; exact beq_self_eq_true _
        clear hy hil hxy
        go_wp2_with fail
        go_ret
        exact ⟨rfl, rfl⟩
      · have hb : ((y.toNat : Int) == (x.toNat : Int)) = false := beq_eq_false_iff_ne.2 (fun e => hxy (UInt8.toNat_inj.1 (by omega)))
        have HXY := Lib.hid hxy
        clear hy hil hxy
        go_wp2_with fail
        go_roundg g
        case measure => omega
        case rel => exact ⟨rfl, i + 1, by omega, by first | rfl | simp, fun j z hj hz => by
          by_cases e : j = i
          · subst e; rw [HY.out] at hz; cases hz; exact HXY.out
          · exact HI.out j z (by omega) hz⟩
end Go.Proofs.YtjppfdilfcokeaaDoor
