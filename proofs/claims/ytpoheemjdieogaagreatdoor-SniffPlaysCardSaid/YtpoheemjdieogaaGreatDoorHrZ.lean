/-
  The walk of strings.EqualFold of a name of any length and "host". Condition: the name's bytes are a word's. The walks of the document's own tests of one byte (culvertref22). Printed by program. No condition. The document's own folded text (culvertref22.folded); bytes appended to a row of up to 2^47. Condition: the text is no longer than 2^47. The walks of the document's small functions of HTTP: until, parts, prefix, port, begins. No condition but that the strings are not long. The walk of the document's begins of HTTP: can a text begin a host's name. No condition but that the string is not long. The walks of the document's Authority and Begins of HTTP. No condition but that the strings are not long. The walk of the document's target of HTTP. No condition but that the string is not long.
-/
import Derived.Test.YtpoheemjdieogaaGreatDoorHttpQ
import Derived.Deep.LoopGhost
import Derived.Lib.Walk
import Derived.Laws.Strings3
import Derived.Maps.AppendAt
import Derived.Deep.CutRange
import Derived.Deep.Cut
import Derived.Test.YtpoheemjdieogaaGreatDoorFoldR
import Derived.OwnWalk
namespace Go.Proofs.YtpoheemjdieogaaGreatDoor
open Go.RowKit Go.Lib
set_option linter.unusedVariables false
set_option linter.unusedSimpArgs false

theorem bs_take (a : List UInt8) (i : Nat) (x : UInt8) (hx : a[i]? = some x) (h : i < (bs a).size) : (bs a)[i] = x := by
  have h1 := Lib.data_getElem? (bs a) i h
  exact Option.some.inj (h1.symm.trans hx)
theorem drop_cons {l : List UInt8} {i : Nat} {x : UInt8} (h : l[i]? = some x) : l.drop i = x :: l.drop (i + 1) := by
  obtain ⟨hi, he⟩ := List.getElem?_eq_some_iff.1 h
  rw [List.drop_eq_getElem_cons hi, he]
set_option maxRecDepth 1000000 in
set_option maxHeartbeats 8000000 in
theorem eqHost_any {a : List UInt8} (ha : a.length ≤ 9223372036854775807) : EqHost a := fun w hwd => by
  have HA := Lib.hid (fun b (hb : b ∈ a) => word_lt (List.all_eq_true.1 hwd b hb))
  obtain ⟨res, hres⟩ : ∃ res, equalFold a hostL = res := ⟨_, rfl⟩
  rw [hres]
  obtain ⟨M, hM⟩ : ∃ M : Nat, min a.length 4 = M := ⟨_, rfl⟩
  have hmin : min (((bs a).size : Nat) : Int) 4 = (M : Int) := by rw [bs_size]; omega
  have hmin2 : min ((a.length : Nat) : Int) 4 = (M : Int) := by omega
  have hM4 : M ≤ 4 := by omega
  have hMa : M ≤ a.length := by omega
  have HM := Lib.hid (show M = a.length ∨ M = 4 by omega)
  have HRES := Lib.hid hres
  have hsz : (bs a).size = a.length := rfl
  clear hwd hres hM
  go_enter Tryz.func51, Tryz.ntmps51
  go_wp2_with fail
  go_step3
  go_wp2_with fail
  go_loopg [5] M (fun g v wx => wx = w ∧ ∃ i : Nat, i + g = M ∧ v = .int .i64 i ∧ equalFold (a.drop i) (hostL.drop i) = res)
  case atStart => exact ⟨rfl, 0, by omega, rfl, HRES.out⟩
  case round =>
    obtain ⟨rfl, i, hig, rfl, hinv⟩ := hrel
    have HI := Lib.hid hinv
    clear hinv hmin hmin2
    cases gk with
    | zero =>
      have hiM : ¬ ((i : Int) < (M : Int)) := by omega
      have him : i = M := by omega
      have hE : res = decide (a.length = 4) := by
        rw [← HI.out, him, equalFold_end _ _ (by
          rcases HM.out with h | h
          · exact .inl (List.drop_eq_nil_of_le (by omega))
          · exact .inr (List.drop_eq_nil_of_le (by rw [h]; decide)))]
        have h4 : hostL.length = 4 := rfl
        simp only [List.length_drop]
        exact decide_eq_decide.2 (by omega)
      have HE := Lib.hid hE
      clear hE him
      by_cases h4 : a.length = 4
      · have hn : res = true := by rw [HE.out]; exact decide_eq_true h4
        subst hn
        have hb : ((a.length : Int) == 4) = true := beq_iff_eq.2 (by omega)
        clear h4
        go_wp2_with fail
        go_ret
        exact ⟨rfl, rfl⟩
      · have hn : res = false := by rw [HE.out]; exact decide_eq_false h4
        subst hn
        have hb : ((a.length : Int) == 4) = false := beq_eq_false_iff_ne.2 (by omega)
        clear h4
        go_wp2_with fail
        go_ret
        exact ⟨rfl, rfl⟩
    | succ g =>
      have hiM : (i : Int) < (M : Int) := by omega
      have hia : i < a.length := by omega
      have hi4 : i < 4 := by omega
      obtain ⟨x, hx⟩ : ∃ x, a[i]? = some x := ⟨_, List.getElem?_eq_getElem hia⟩
      obtain ⟨y, hy⟩ : ∃ y, hostL[i]? = some y := ⟨_, List.getElem?_eq_getElem (by rw [show hostL.length = 4 from rfl]; exact hi4)⟩
      have hx128 : x.toNat < 128 := HA.out x (List.mem_of_getElem? hx)
      have hy128 : y.toNat < 128 := by
        have h2 : y ∈ ([104, 111, 115, 116] : List UInt8) := List.mem_of_getElem? hy
        simp only [List.mem_cons, List.not_mem_nil, or_false] at h2
        rcases h2 with h | h | h | h <;> rw [h] <;> decide
      have hgx : (bs a)[i]'(by rw [hsz]; exact hia) = x := bs_take a i x hx _
      have hgy : (⟨#[104, 111, 115, 116]⟩ : ByteArray)[i]'(by show i < 4; exact hi4) = y := bs_take hostL i y hy _
      have hiI : (i : Int) < (a.length : Int) := by omega
      have hi4I : (i : Int) < 4 := by omega
      have hor : bits .or .u8 (x.toNat : Int) (y.toNat : Int) = ((x.toNat ||| y.toNat : Nat) : Int) := u8_or_nat _ _ (by omega) (by omega)
      have hor128 : ¬ ((128 : Int) ≤ ((x.toNat ||| y.toNat : Nat) : Int)) := by have := Nat.or_lt_two_pow (n := 7) hx128 hy128; omega
      have HX := Lib.hid (And.intro hx hy)
      clear hx hy
      go_wp2_with fail
      all_goals (try simp only [beq_iff_eq, beq_eq_false_iff_ne, ne_eq] at *)
      all_goals first
        | (go_roundg g
           case measure => omega
           case rel => exact ⟨rfl, i + 1, by omega, by first | rfl | simp, by rw [← HI.out, drop_cons HX.out.1, drop_cons HX.out.2, equalFold_yes _ _ _ _ (decide_eq_true (by omega))]⟩)
        | (go_ret
           refine ⟨?_, rfl⟩
           rw [← HI.out, drop_cons HX.out.1, drop_cons HX.out.2, equalFold_no _ _ _ _ (decide_eq_false (by omega))]
           rfl)
end Go.Proofs.YtpoheemjdieogaaGreatDoor

namespace Go.Proofs.YtpoheemjdieogaaGreatDoor
open Go.RowKit Go.Lib
set_option linter.unusedVariables false
set_option linter.unusedSimpArgs false

def rseenB (c : UInt8) : Bool := decide (33 ≤ c.toNat) && decide (c.toNat ≤ 126)
def rletB (c : UInt8) : Bool := capB c || smallB c
theorem rseen_eq (c : UInt8) : rseenB c = seenB c := by
  unfold rseenB seenB
  rw [show decide (33 ≤ c.toNat) = decide (32 < c.toNat) from decide_eq_decide.2 (by omega), show decide (c.toNat ≤ 126) = decide (c.toNat < 127) from decide_eq_decide.2 (by omega)]

set_option maxRecDepth 100000 in
set_option maxHeartbeats 8000000 in
theorem rcapital_any (w : World) (x : UInt8) : Calls Tryz.prog 96 #[.int .u8 x.toNat] w fun e w' => e = .returned (.bool (capB x)) ∧ w' = w := by
  obtain ⟨c, hc⟩ : ∃ c : Int, (x.toNat : Int) = c := ⟨_, rfl⟩
  by_cases h0 : 65 ≤ c
  · skip
    by_cases h1 : c ≤ 90
    · skip
      have q0 : decide (65 ≤ x.toNat) = true := by exact decide_eq_true (by omega)
      have q1 : decide (x.toNat ≤ 90) = true := by exact decide_eq_true (by omega)
      have HP : capB x = true := by unfold capB; rw [q0, q1]; rfl
      rw [HP, hc]
      clear HP
      clear q0
      clear q1
      clear hc
      go_enter Tryz.func96, Tryz.ntmps96
      go_wp2_with fail
      go_ret
      exact ⟨by first | rfl | (simp <;> omega) | (simp [*] <;> omega), rfl⟩
    · skip
      replace h1 : 90 < c := by omega
      have q0 : decide (65 ≤ x.toNat) = true := by exact decide_eq_true (by omega)
      have q1 : decide (x.toNat ≤ 90) = false := by exact decide_eq_false (by omega)
      have HP : capB x = false := by unfold capB; rw [q0, q1]; rfl
      rw [HP, hc]
      clear HP
      clear q0
      clear q1
      clear hc
      go_enter Tryz.func96, Tryz.ntmps96
      go_wp2_with fail
      go_ret
      exact ⟨by first | rfl | (simp <;> omega) | (simp [*] <;> omega), rfl⟩
  · skip
    replace h0 : c < 65 := by omega
    have q0 : decide (65 ≤ x.toNat) = false := by exact decide_eq_false (by omega)
    have HP : capB x = false := by unfold capB; rw [q0]; rfl
    rw [HP, hc]
    clear HP
    clear q0
    clear hc
    go_enter Tryz.func96, Tryz.ntmps96
    go_wp2_with fail
    go_ret
    exact ⟨by first | rfl | (simp <;> omega) | (simp [*] <;> omega), rfl⟩
set_option maxRecDepth 100000 in
set_option maxHeartbeats 8000000 in
theorem rdigit_any (w : World) (x : UInt8) : Calls Tryz.prog 137 #[.int .u8 x.toNat] w fun e w' => e = .returned (.bool (digB x)) ∧ w' = w := by
  obtain ⟨c, hc⟩ : ∃ c : Int, (x.toNat : Int) = c := ⟨_, rfl⟩
  by_cases h0 : 48 ≤ c
  · skip
    by_cases h1 : c ≤ 57
    · skip
      have q0 : decide (48 ≤ x.toNat) = true := by exact decide_eq_true (by omega)
      have q1 : decide (x.toNat ≤ 57) = true := by exact decide_eq_true (by omega)
      have HP : digB x = true := by unfold digB; rw [q0, q1]; rfl
      rw [HP, hc]
      clear HP
      clear q0
      clear q1
      clear hc
      go_enter Tryz.func137, Tryz.ntmps137
      go_wp2_with fail
      go_ret
      exact ⟨by first | rfl | (simp <;> omega) | (simp [*] <;> omega), rfl⟩
    · skip
      replace h1 : 57 < c := by omega
      have q0 : decide (48 ≤ x.toNat) = true := by exact decide_eq_true (by omega)
      have q1 : decide (x.toNat ≤ 57) = false := by exact decide_eq_false (by omega)
      have HP : digB x = false := by unfold digB; rw [q0, q1]; rfl
      rw [HP, hc]
      clear HP
      clear q0
      clear q1
      clear hc
      go_enter Tryz.func137, Tryz.ntmps137
      go_wp2_with fail
      go_ret
      exact ⟨by first | rfl | (simp <;> omega) | (simp [*] <;> omega), rfl⟩
  · skip
    replace h0 : c < 48 := by omega
    have q0 : decide (48 ≤ x.toNat) = false := by exact decide_eq_false (by omega)
    have HP : digB x = false := by unfold digB; rw [q0]; rfl
    rw [HP, hc]
    clear HP
    clear q0
    clear hc
    go_enter Tryz.func137, Tryz.ntmps137
    go_wp2_with fail
    go_ret
    exact ⟨by first | rfl | (simp <;> omega) | (simp [*] <;> omega), rfl⟩
set_option maxRecDepth 100000 in
set_option maxHeartbeats 8000000 in
theorem rblank_any (w : World) (x : UInt8) : Calls Tryz.prog 102 #[.int .u8 x.toNat] w fun e w' => e = .returned (.bool (blankB x)) ∧ w' = w := by
  obtain ⟨c, hc⟩ : ∃ c : Int, (x.toNat : Int) = c := ⟨_, rfl⟩
  by_cases h0 : c = 32
  · skip
    have q0 : decide (x.toNat = 32) = true := by exact decide_eq_true (by omega)
    have HP : blankB x = true := by unfold blankB; rw [q0]; rfl
    rw [HP, hc]
    clear HP
    clear q0
    clear hc
    go_enter Tryz.func102, Tryz.ntmps102
    go_wp2_with fail
    go_ret
    exact ⟨by first | rfl | (simp <;> omega) | (simp [*] <;> omega), rfl⟩
  · skip
    by_cases h1 : c = 9
    · skip
      have q0 : decide (x.toNat = 32) = false := by exact decide_eq_false (by omega)
      have q1 : decide (x.toNat = 9) = true := by exact decide_eq_true (by omega)
      have HP : blankB x = true := by unfold blankB; rw [q0, q1]; rfl
      rw [HP, hc]
      clear HP
      clear q0
      clear q1
      clear hc
      go_enter Tryz.func102, Tryz.ntmps102
      go_wp2_with fail
      go_ret
      exact ⟨by first | rfl | (simp <;> omega) | (simp [*] <;> omega), rfl⟩
    · skip
      have q0 : decide (x.toNat = 32) = false := by exact decide_eq_false (by omega)
      have q1 : decide (x.toNat = 9) = false := by exact decide_eq_false (by omega)
      have HP : blankB x = false := by unfold blankB; rw [q0, q1]; rfl
      rw [HP, hc]
      clear HP
      clear q0
      clear q1
      clear hc
      go_enter Tryz.func102, Tryz.ntmps102
      go_wp2_with fail
      go_ret
      exact ⟨by first | rfl | (simp <;> omega) | (simp [*] <;> omega), rfl⟩
set_option maxRecDepth 100000 in
set_option maxHeartbeats 8000000 in
theorem rseen_any (w : World) (x : UInt8) : Calls Tryz.prog 135 #[.int .u8 x.toNat] w fun e w' => e = .returned (.bool (rseenB x)) ∧ w' = w := by
  obtain ⟨c, hc⟩ : ∃ c : Int, (x.toNat : Int) = c := ⟨_, rfl⟩
  by_cases h0 : 33 ≤ c
  · skip
    by_cases h1 : c ≤ 126
    · skip
      have q0 : decide (33 ≤ x.toNat) = true := by exact decide_eq_true (by omega)
      have q1 : decide (x.toNat ≤ 126) = true := by exact decide_eq_true (by omega)
      have HP : rseenB x = true := by unfold rseenB; rw [q0, q1]; rfl
      rw [HP, hc]
      clear HP
      clear q0
      clear q1
      clear hc
      go_enter Tryz.func135, Tryz.ntmps135
      go_wp2_with fail
      go_ret
      exact ⟨by first | rfl | (simp <;> omega) | (simp [*] <;> omega), rfl⟩
    · skip
      replace h1 : 126 < c := by omega
      have q0 : decide (33 ≤ x.toNat) = true := by exact decide_eq_true (by omega)
      have q1 : decide (x.toNat ≤ 126) = false := by exact decide_eq_false (by omega)
      have HP : rseenB x = false := by unfold rseenB; rw [q0, q1]; rfl
      rw [HP, hc]
      clear HP
      clear q0
      clear q1
      clear hc
      go_enter Tryz.func135, Tryz.ntmps135
      go_wp2_with fail
      go_ret
      exact ⟨by first | rfl | (simp <;> omega) | (simp [*] <;> omega), rfl⟩
  · skip
    replace h0 : c < 33 := by omega
    have q0 : decide (33 ≤ x.toNat) = false := by exact decide_eq_false (by omega)
    have HP : rseenB x = false := by unfold rseenB; rw [q0]; rfl
    rw [HP, hc]
    clear HP
    clear q0
    clear hc
    go_enter Tryz.func135, Tryz.ntmps135
    go_wp2_with fail
    go_ret
    exact ⟨by first | rfl | (simp <;> omega) | (simp [*] <;> omega), rfl⟩
theorem rseen2_any (w : World) (x : UInt8) : Calls Tryz.prog 135 #[.int .u8 x.toNat] w fun e w' => e = .returned (.bool (seenB x)) ∧ w' = w := by
  have := rseen_any w x
  rw [rseen_eq] at this
  exact this

set_option maxRecDepth 100000 in
set_option maxHeartbeats 8000000 in
theorem rshown_any (w : World) (x : UInt8) : Calls Tryz.prog 100 #[.int .u8 x.toNat] w fun e w' => e = .returned (.bool (shownB x)) ∧ w' = w := by
  obtain ⟨c, hc⟩ : ∃ c : Int, (x.toNat : Int) = c := ⟨_, rfl⟩
  cases h0 : blankB x
  · skip
    cases h1 : seenB x
    · skip
      by_cases h2 : 128 ≤ c
      · skip
        have q2 : decide (128 ≤ x.toNat) = true := by exact decide_eq_true (by omega)
        have HP : shownB x = true := by unfold shownB; rw [h0, h1, q2]; rfl
        rw [HP, hc]
        clear HP
        have C0 := Lib.hid (rblank_any w x)
        rw [h0, hc] at C0
        have C1 := Lib.hid (rseen2_any w x)
        rw [h1, hc] at C1
        clear h0
        clear h1
        clear q2
        clear hc
        go_enter Tryz.func100, Tryz.ntmps100
        go_wp2_with fail
        refine C0.out.mono ?_
        rintro e w0 ⟨rfl, hw0⟩
        obtain rfl := hw0.symm
        clear hw0
        go_wp2_with fail
        refine C1.out.mono ?_
        rintro e w1 ⟨rfl, hw1⟩
        obtain rfl := hw1.symm
        clear hw1
        go_wp2_with fail
        go_ret
        exact ⟨by first | rfl | (simp <;> omega) | (simp [*] <;> omega), rfl⟩
      · skip
        replace h2 : c < 128 := by omega
        have q2 : decide (128 ≤ x.toNat) = false := by exact decide_eq_false (by omega)
        have HP : shownB x = false := by unfold shownB; rw [h0, h1, q2]; rfl
        rw [HP, hc]
        clear HP
        have C0 := Lib.hid (rblank_any w x)
        rw [h0, hc] at C0
        have C1 := Lib.hid (rseen2_any w x)
        rw [h1, hc] at C1
        clear h0
        clear h1
        clear q2
        clear hc
        go_enter Tryz.func100, Tryz.ntmps100
        go_wp2_with fail
        refine C0.out.mono ?_
        rintro e w0 ⟨rfl, hw0⟩
        obtain rfl := hw0.symm
        clear hw0
        go_wp2_with fail
        refine C1.out.mono ?_
        rintro e w1 ⟨rfl, hw1⟩
        obtain rfl := hw1.symm
        clear hw1
        go_wp2_with fail
        go_ret
        exact ⟨by first | rfl | (simp <;> omega) | (simp [*] <;> omega), rfl⟩
    · skip
      have HP : shownB x = true := by unfold shownB; rw [h0, h1]; rfl
      rw [HP, hc]
      clear HP
      have C0 := Lib.hid (rblank_any w x)
      rw [h0, hc] at C0
      have C1 := Lib.hid (rseen2_any w x)
      rw [h1, hc] at C1
      clear h0
      clear h1
      clear hc
      go_enter Tryz.func100, Tryz.ntmps100
      go_wp2_with fail
      refine C0.out.mono ?_
      rintro e w0 ⟨rfl, hw0⟩
      obtain rfl := hw0.symm
      clear hw0
      go_wp2_with fail
      refine C1.out.mono ?_
      rintro e w1 ⟨rfl, hw1⟩
      obtain rfl := hw1.symm
      clear hw1
      go_wp2_with fail
      go_ret
      exact ⟨by first | rfl | (simp <;> omega) | (simp [*] <;> omega), rfl⟩
  · skip
    have HP : shownB x = true := by unfold shownB; rw [h0]; rfl
    rw [HP, hc]
    clear HP
    have C0 := Lib.hid (rblank_any w x)
    rw [h0, hc] at C0
    clear h0
    clear hc
    go_enter Tryz.func100, Tryz.ntmps100
    go_wp2_with fail
    refine C0.out.mono ?_
    rintro e w0 ⟨rfl, hw0⟩
    obtain rfl := hw0.symm
    clear hw0
    go_wp2_with fail
    go_ret
    exact ⟨by first | rfl | (simp <;> omega) | (simp [*] <;> omega), rfl⟩
set_option maxRecDepth 100000 in
set_option maxHeartbeats 8000000 in
theorem rletter_any (w : World) (x : UInt8) : Calls Tryz.prog 136 #[.int .u8 x.toNat] w fun e w' => e = .returned (.bool (rletB x)) ∧ w' = w := by
  obtain ⟨c, hc⟩ : ∃ c : Int, (x.toNat : Int) = c := ⟨_, rfl⟩
  have C0 := Lib.hid (rcapital_any w x)
  cases h0 : capB x
  · rw [h0] at C0
    by_cases h1 : 97 ≤ c
    · by_cases h2 : c ≤ 122
      · have HP : rletB x = true := by unfold rletB smallB; rw [h0, show decide (97 ≤ x.toNat) = true from decide_eq_true (by omega), show decide (x.toNat ≤ 122) = true from decide_eq_true (by omega)]; rfl
        rw [HP, hc]
        rw [hc] at C0
        clear HP hc
        go_enter Tryz.func136, Tryz.ntmps136
        go_wp2_with fail
        refine C0.out.mono ?_
        rintro e w0 ⟨rfl, hw0⟩
        obtain rfl := hw0.symm
        clear hw0
        go_wp2_with fail
        go_ret
        exact ⟨by first | rfl | (simp <;> omega) | (simp [*] <;> omega), rfl⟩
      · replace h2 : 122 < c := by omega
        have HP : rletB x = false := by unfold rletB smallB; rw [h0, show decide (97 ≤ x.toNat) = true from decide_eq_true (by omega), show decide (x.toNat ≤ 122) = false from decide_eq_false (by omega)]; rfl
        rw [HP, hc]
        rw [hc] at C0
        clear HP hc
        go_enter Tryz.func136, Tryz.ntmps136
        go_wp2_with fail
        refine C0.out.mono ?_
        rintro e w0 ⟨rfl, hw0⟩
        obtain rfl := hw0.symm
        clear hw0
        go_wp2_with fail
        go_ret
        exact ⟨by first | rfl | (simp <;> omega) | (simp [*] <;> omega), rfl⟩
    · replace h1 : c < 97 := by omega
      have HP : rletB x = false := by unfold rletB smallB; rw [h0, show decide (97 ≤ x.toNat) = false from decide_eq_false (by omega)]; rfl
      rw [HP, hc]
      rw [hc] at C0
      clear HP hc
      go_enter Tryz.func136, Tryz.ntmps136
      go_wp2_with fail
      refine C0.out.mono ?_
      rintro e w0 ⟨rfl, hw0⟩
      obtain rfl := hw0.symm
      clear hw0
      go_wp2_with fail
      go_ret
      exact ⟨by first | rfl | (simp <;> omega) | (simp [*] <;> omega), rfl⟩
  · rw [h0] at C0
    have HP : rletB x = true := by unfold rletB; rw [h0]; rfl
    rw [HP, hc]
    rw [hc] at C0
    clear HP hc
    go_enter Tryz.func136, Tryz.ntmps136
    go_wp2_with fail
    refine C0.out.mono ?_
    rintro e w0 ⟨rfl, hw0⟩
    obtain rfl := hw0.symm
    clear hw0
    go_wp2_with fail
    go_ret
    exact ⟨by first | rfl | (simp <;> omega) | (simp [*] <;> omega), rfl⟩
def marksB : ByteArray := ⟨marksL.toArray⟩
theorem rword_none {x : UInt8} (h : marksL.contains x = false) : wordB x = (rletB x || digB x) := by unfold wordB rletB; rw [h, Bool.or_false]
theorem rword_some {x : UInt8} (h : marksL.contains x = true) : wordB x = true := by unfold wordB; rw [h, Bool.or_true]
set_option maxRecDepth 100000 in
set_option maxHeartbeats 8000000 in
theorem rworded_any (w : World) (x : UInt8) : Calls Tryz.prog 99 #[.int .u8 x.toNat] w fun e w' => e = .returned (.bool (wordB x)) ∧ w' = w := by
  have HM := Lib.hid (show ∀ i y, marksL[i]? = some y → y = x → wordB x = true from fun i y hy he => by
    subst he
    exact rword_some (List.contains_iff_mem.2 (List.mem_of_getElem? hy)))
  obtain ⟨res, hres⟩ : ∃ res, wordB x = res := ⟨_, rfl⟩
  have HRES := Lib.hid hres
  have hsz : marksB.size = 15 := rfl
  have CL := Lib.hid (rletter_any w x)
  have CD := Lib.hid (rdigit_any w x)
  rw [hres]
  clear hres
  go_enter Tryz.func99, Tryz.ntmps99
  go_wp2_with fail
  go_loopg [4] 15 (fun g v wx => wx = w ∧ ∃ i : Nat, i + g = 15 ∧ v = .int .i64 i ∧ ∀ (j : Nat) y, j < i → marksL[j]? = some y → y ≠ x)
  case atStart => exact ⟨rfl, 0, by omega, rfl, fun j y h => absurd h (Nat.not_lt_zero _)⟩
  case round =>
    obtain ⟨rfl, i, hig, rfl, hinv⟩ := hrel
    have HI := Lib.hid hinv
    clear hinv
    cases gk with
    | zero =>
      obtain rfl : i = 15 := by omega
      have hc : marksL.contains x = false := by
        cases hc : marksL.contains x with
        | false => rfl
        | true =>
          obtain ⟨j, hj⟩ := List.mem_iff_getElem?.1 (List.contains_iff_mem.1 hc)
          have hjl : j < 15 := (List.getElem?_eq_some_iff.1 hj).1
          exact absurd rfl (HI.out j x hjl hj)
      have hr := rword_none hc
      rw [HRES.out] at hr
      have HR := Lib.hid hr
      clear hc hr
      cases hl : rletB x with
      | true =>
        have hn : res = true := by rw [HR.out, hl]; rfl
        subst hn
        rw [hl] at CL
        go_wp2_with (first | (go_at_call 136; refine CL.out.mono ?_; rintro e w1 ⟨rfl, hw1⟩; obtain rfl := hw1.symm; clear hw1))
        go_ret
        exact ⟨rfl, rfl⟩
      | false =>
        have hn : res = digB x := by rw [HR.out, hl]; rfl
        subst hn
        rw [hl] at CL
        go_wp2_with (first | (go_at_call 136; refine CL.out.mono ?_; rintro e w1 ⟨rfl, hw1⟩; obtain rfl := hw1.symm; clear hw1) | (go_at_call 137; refine CD.out.mono ?_; rintro e w1 ⟨rfl, hw1⟩; obtain rfl := hw1.symm; clear hw1))
        go_ret
        exact ⟨rfl, rfl⟩
    | succ g =>
      have hi15 : (i : Int) < 15 := by omega
      have hil : i < marksL.length := by show i < 15; omega
      obtain ⟨y, hy⟩ : ∃ y, marksL[i]? = some y := ⟨_, List.getElem?_eq_getElem hil⟩
      have hgy : (⟨#[33, 35, 36, 37, 38, 39, 42, 43, 45, 46, 94, 95, 96, 124, 126]⟩ : ByteArray)[i]'(by show i < 15; omega) = y := bs_take marksL i y hy _
      have HY := Lib.hid hy
      by_cases hxy : y = x
      · have hn : res = true := by rw [← HRES.out]; exact HM.out i y hy hxy
        subst hn
        have hb : ((y.toNat : Int) == (x.toNat : Int)) = true := by rw [hxy]; exact beq_self_eq_true _
        clear hy hil hxy
        go_wp2_with fail
        go_ret
        exact ⟨rfl, rfl⟩
      · have hb : ((y.toNat : Int) == (x.toNat : Int)) = false := beq_eq_false_iff_ne.2 (fun e => hxy (UInt8.toNat_inj.1 (by omega)))
        have HXY := Lib.hid hxy
        clear hy hil hxy
        go_wp2_with fail
        go_roundg g
        case measure => omega
        case rel => exact ⟨rfl, i + 1, by omega, by first | rfl | simp, fun j z hj hz => by
          by_cases e : j = i
          · subst e; rw [HY.out] at hz; cases hz; exact HXY.out
          · exact HI.out j z (by omega) hz⟩
end Go.Proofs.YtpoheemjdieogaaGreatDoor

namespace Go.Proofs.YtpoheemjdieogaaGreatDoor
open Go.RowKit Go.Lib
set_option linter.unusedVariables false
set_option linter.unusedSimpArgs false

theorem run_append_byte {P : Program} (w : World) (base t ty e : Nat) (ht : P.underlying t = some (.slice e)) (hi : (P.info? e).map (fun i => (i.zero, i.size, i.bytes)) = some (some (.int .u8 0), 1, 1))
    (v : Value) (n : Nat) (xs : List UInt8) (hown : w.ownsRow base e 1 v n (xs.map u8V)) (a : Addr) (c : Nat) (x : UInt8) (hx : w.cell? a = some (u8V x)) (hn : n + 1 ≤ 140737488355328) (hbase : base ≤ w.heap.size) :
    ∃ v' w', (Builtin.append_ #[t, t] ty #[v, .slice (some a) 1 c]).run P w = .ok v' w' ∧ w'.ownsRow base e 1 v' (n + 1) ((xs ++ [x]).map u8V) ∧ w.grownBy w' v.ownBlock := by
  obtain ⟨i0, hi0, hz0, hz1, hz2⟩ := info_parts hi
  have hcells : ∀ j u, ([x].map u8V)[j]? = some u → w.cell? (a.add j) = some u := by
    intro j u hu
    match j, hu with
    | 0, hu =>
      simp only [List.map_cons, List.getElem?_cons_zero, Option.some.injEq] at hu
      rw [← hu]
      have : a.add 0 = a := by unfold Addr.add; simp
      rw [this]; exact hx
    | j + 1, hu => simp at hu
  obtain ⟨v', w', hrun, h2', h3', h4', h5'⟩ := run_append_own_at (P := P) w base t ty e i0 (.int .u8 0) 1 1 ht hi0 hz0 hz1 hz2 rfl (by omega) v n (xs.map u8V) hown a 1 c ([x].map u8V) (by simp) hcells (u8_one [x]) (by simp only [maxLen]; omega) (by omega) hbase
  exact ⟨v', w', hrun, by simpa using h2', h3'⟩
theorem wpList_append_byte {P : Program} {w : World} {ops : Array Oper} {rest : List Oper} {o : Oper} {a : Act} {Q : Exit → Act → World → Prop} (hg : o.guard = none) (s x : Operand) (base t e : Nat)
    (ho : o.op = .call { callee := .builtin .append, args := #[s, x], argTypes := #[t, t] })
    (ht : P.underlying t = some (.slice e)) (hi : (P.info? e).map (fun i => (i.zero, i.size, i.bytes)) = some (some (.int .u8 0), 1, 1))
    (v : Value) (n : Nat) (xs : List UInt8) (hs : a.eval s = v) (hown : w.ownsRow base e 1 v n (xs.map u8V)) (A : Addr) (c : Nat) (y : UInt8) (hx : a.eval x = .slice (some A) 1 c) (hy : w.cell? A = some (u8V y)) (hn : n + 1 ≤ 140737488355328) (hbase : base ≤ w.heap.size)
    (h : ∀ v' w', w'.ownsRow base e 1 v' (n + 1) ((xs ++ [y]).map u8V) → w.grownBy w' v.ownBlock → wpList P ops Q rest (a.put o.dst v') w') : wpList P ops Q (o :: rest) a w := by
  refine wpList_plain hg fun K' hK' => ?_
  obtain ⟨v', w', hrun, h2, h3⟩ := run_append_byte (P := P) w base t o.type e ht hi v n xs hown A c y hy hn hbase
  unfold Oper.wp execOp
  simp only [ho, resolve, invoke, builtin, Sem.run_bind, Sem.run_pure, Result.andThen_ok, List.map_toArray, List.map_cons, List.map_nil, hs, hx, hrun]
  exact hK' _ _ (h v' w' h2 h3)
theorem lower_cap {x : UInt8} (h : capB x = true) : ((lowerB x).toNat : Int) = (x.toNat : Int) + 32 := by
  refine lowerB_int x ?_
  unfold capB at h
  unfold isUpperB
  simp at h ⊢
  simp [UInt8.le_iff_toNat_le]
  omega
theorem lower_not {x : UInt8} (h : capB x = false) : lowerB x = x := by
  refine lowerB_of_not x ?_
  unfold capB at h
  unfold isUpperB
  simp at h ⊢
  simp [UInt8.le_iff_toNat_le, UInt8.lt_iff_toNat_lt]
  omega
set_option maxRecDepth 1000000 in
set_option maxHeartbeats 8000000 in
theorem rfolded_any (w : World) (s : List UInt8) (hs : s.length ≤ 140737488355328) : Calls Tryz.prog 101 #[.string (bs s)] w fun e w' => e = .returned (.string (bs (s.map lowerB))) ∧ Keeps [] w w' := by
  obtain ⟨res, hres⟩ : ∃ res, s.map lowerB = res := ⟨_, rfl⟩
  rw [hres]
  have HRES := Lib.hid hres
  have hsz : (bs s).size = s.length := rfl
  clear hres
  go_enter Tryz.func101, Tryz.ntmps101
  go_wp2_with fail
  go_loopg [3, 4] s.length (fun g ov iv wx => ∃ pre post : List UInt8, s = pre ++ post ∧ g = post.length ∧ iv = .int .i64 pre.length ∧ wx.ownsRow w.heap.size 5 1 ov pre.length ((pre.map lowerB).map u8V) ∧ Keeps [] w wx)
  case atStart => exact ⟨[], s, rfl, rfl, rfl, World.ownsRow_nil _ _ _ _, Keeps.refl _ _⟩
  case round =>
    obtain ⟨pre, post, hsp, hg, rfl, hown, hk⟩ := hrel
    subst hg
    have hll : s.length = pre.length + post.length := by rw [hsp]; simp
    have HK := Lib.hid hk
    have HO := Lib.hid hown
    cases post with
    | nil =>
      have hlt : ¬ (pre.length : Int) < (s.length : Int) := by simp at hll; omega
      have hpre : pre = s := by rw [hsp]; simp
      subst hpre
      have hb := BytesV.of_own hown
      rw [HRES.out] at hb
      obtain ⟨A, c, rfl, hb2⟩ := hb
      have hcv := BytesV.hstr0 (P := Tryz.prog) (show BytesV wr (.slice A res.length c) res from ⟨A, c, rfl, hb2⟩) 22 9 5 Tryz.underlying22 Tryz.underlying5 Tryz.underlying9
      clear hk hown hsp hll hb2 HO HRES
      go_wp2_with fail
      go_ret
      exact ⟨rfl, HK.out⟩
    | cons x post =>
      have hlt : (pre.length : Int) < (s.length : Int) := by simp at hll; omega
      have hpl : pre.length + 1 ≤ 140737488355328 := by simp at hll; omega
      have hget : ∀ h, (bs s)[pre.length]'h = x := by rw [hsp]; exact fun h => bs_mid pre post x h
      have hlt3 : pre.length < (bs s).size := by rw [bs_size]; omega
      have hg2 := hget hlt3
      have HSP := Lib.hid hsp
      have HPL := Lib.hid hpl
      have CC := Lib.hid (rcapital_any wr x)
      clear hll hsp hget hk hown hs
      have HLST := Lib.hid (show (pre ++ [x]).map lowerB = pre.map lowerB ++ [lowerB x] by rw [List.map_append]; rfl)
      cases hc : capB x with
      | true =>
        rw [hc] at CC
        have hlo := lower_cap hc
        have hx1 : (65 : Int) ≤ (x.toNat : Int) := by unfold capB at hc; simp at hc; omega
        have hx2 : (x.toNat : Int) ≤ 90 := by unfold capB at hc; simp at hc; omega
        have HU := Lib.hid (show u8V (lowerB x) = .int .u8 ((x.toNat : Int) + 32) by unfold u8V; rw [hlo])
        clear hc hlo
        go_wp2_with (first | (go_at_call 96; refine CC.out.mono ?_; rintro e w1 ⟨rfl, hw1⟩; obtain rfl := hw1.symm; clear hw1) | (at_builtin; refine wpList_append_byte rfl (.tmp 19) (.tmp 21) w.heap.size 22 5 rfl Tryz.underlying22 Tryz.infoU8 _ pre.length (pre.map lowerB) rfl (World.ownsRow.alloc HO.out _) _ 1 (lowerB x) rfl ((cell_of_block (MapKept.heap_alloc wr _).1 0).trans (by rw [HU.out]; rfl)) HPL.out (by rw [World.size_alloc]; have := HK.out.size; omega) ?_; intro v' w' hown' hgrow'; have HEND := Lib.hid (And.intro hown' (grow_keeps ((HK.out).alloc' _) (World.ownsRow.alloc HO.out _) (Nat.le_refl _) hgrow')); clear hown' hgrow'))
        go_roundg post.length
        case measure => simp
        case rel => exact ⟨pre ++ [x], post, by rw [HSP.out]; simp, rfl, by simp, by rw [HLST.out]; simpa using HEND.out.1, HEND.out.2⟩
      | false =>
        rw [hc] at CC
        have HU := Lib.hid (show u8V (lowerB x) = .int .u8 (x.toNat : Int) by unfold u8V; rw [lower_not hc])
        clear hc
        go_wp2_with (first | (go_at_call 96; refine CC.out.mono ?_; rintro e w1 ⟨rfl, hw1⟩; obtain rfl := hw1.symm; clear hw1) | (at_builtin; refine wpList_append_byte rfl (.tmp 19) (.tmp 21) w.heap.size 22 5 rfl Tryz.underlying22 Tryz.infoU8 _ pre.length (pre.map lowerB) rfl (World.ownsRow.alloc HO.out _) _ 1 (lowerB x) rfl ((cell_of_block (MapKept.heap_alloc wr _).1 0).trans (by rw [HU.out]; rfl)) HPL.out (by rw [World.size_alloc]; have := HK.out.size; omega) ?_; intro v' w' hown' hgrow'; have HEND := Lib.hid (And.intro hown' (grow_keeps ((HK.out).alloc' _) (World.ownsRow.alloc HO.out _) (Nat.le_refl _) hgrow')); clear hown' hgrow'))
        go_roundg post.length
        case measure => simp
        case rel => exact ⟨pre ++ [x], post, by rw [HSP.out]; simp, rfl, by simp, by rw [HLST.out]; simpa using HEND.out.1, HEND.out.2⟩
end Go.Proofs.YtpoheemjdieogaaGreatDoor

namespace Go.Proofs.YtpoheemjdieogaaGreatDoor
open Go.RowKit Go.Lib
set_option linter.unusedVariables false
set_option linter.unusedSimpArgs false

/-- how long a text is up to a byte; -1: it isn't there -/
def untilR (s : List UInt8) (c : UInt8) : Int := if (s.takeWhile (fun x => !(x == c))).length < s.length then (s.takeWhile (fun x => !(x == c))).length else -1
theorem take_all {s : List UInt8} {c : UInt8} (h : ∀ x ∈ s, ¬ x = c) : s.takeWhile (fun x => !(x == c)) = s := by
  induction s with
  | nil => rfl
  | cons x t ih =>
    rw [List.takeWhile_cons, if_pos (by simp [h x (List.mem_cons_self ..)]), ih fun y hy => h y (List.mem_cons_of_mem _ hy)]
theorem take_at_c {pre post : List UInt8} {c : UInt8} (h : ∀ x ∈ pre, ¬ x = c) : (pre ++ c :: post).takeWhile (fun x => !(x == c)) = pre := by
  rw [List.takeWhile_append_of_pos (by intro x hx; simp [h x hx])]
  simp
theorem u8_eqc {x c : UInt8} : ((x.toNat : Int) == (c.toNat : Int)) = (x == c) := by
  by_cases h : x = c
  · subst h; simp
  · have : ¬ (x.toNat : Int) = (c.toNat : Int) := fun h2 => h (UInt8.toNat_inj.1 (by omega))
    rw [beq_eq_false_iff_ne.2 this, beq_eq_false_iff_ne.2 h]
set_option maxRecDepth 1000000 in
set_option maxHeartbeats 4000000 in
theorem runtil_any (w : World) (s : List UInt8) (c : UInt8) (hs : s.length ≤ 1000000) : Calls Tryz.prog 58 #[.string (bs s), .int .u8 (c.toNat : Int)] w fun e w' => e = .returned (.int .i64 (untilR s c)) ∧ w' = w := by
  obtain ⟨res, hres⟩ : ∃ res, untilR s c = res := ⟨_, rfl⟩
  rw [hres]
  have HRES := Lib.hid hres
  have hsz : (bs s).size = s.length := rfl
  obtain ⟨cz, hcz⟩ : ∃ cz : Int, (c.toNat : Int) = cz := ⟨_, rfl⟩
  rw [hcz]
  have HCZ := Lib.hid hcz
  clear hres hcz
  go_enter Tryz.func58, Tryz.ntmps58
  go_wp2_with fail
  go_loopg [5] s.length (fun g iv wx => ∃ pre post : List UInt8, s = pre ++ post ∧ g = post.length ∧ iv = .int .i64 pre.length ∧ wx = w ∧ ∀ x ∈ pre, ¬ x = c)
  case atStart => exact ⟨[], s, rfl, rfl, rfl, rfl, by simp⟩
  case round =>
    obtain ⟨pre, post, hsp, hg, rfl, hwx, hall⟩ := hrel
    subst hg
    obtain rfl := hwx.symm
    clear hwx
    have hll : s.length = pre.length + post.length := by rw [hsp]; simp
    cases post with
    | nil =>
      have hlt : ¬ (pre.length : Int) < (s.length : Int) := by simp at hll; omega
      have hr : res = -1 := by
        rw [← HRES.out]
        unfold untilR
        have hps : s = pre := by rw [hsp]; simp
        rw [hps, take_all hall, if_neg (by omega)]
      subst hr
      clear hsp hall hll
      go_wp2_with fail
      go_ret
      exact ⟨rfl, rfl⟩
    | cons x post =>
      have hlt : (pre.length : Int) < (s.length : Int) := by simp at hll; omega
      have hget : ∀ h, (bs s)[pre.length]'h = x := by rw [hsp]; exact fun h => bs_mid pre post x h
      have hlt3 : pre.length < (bs s).size := by rw [bs_size]; simp at hll; omega
      have hg2 := hget hlt3
      have HSP := Lib.hid (And.intro hsp hall)
      have hpb : pre.length ≤ 1000000 := by simp at hll; omega
      by_cases hx : x = c
      · have hxc : ((x.toNat : Int) == cz) = true := by rw [← HCZ.out, u8_eqc]; simp [hx]
        have hr : res = (pre.length : Int) := by
          rw [← HRES.out]
          unfold untilR
          rw [hsp, hx, take_at_c hall, if_pos (by simp)]
        subst hr
        clear hsp hall hll hget hx
        go_wp2_with fail
        go_ret
        exact ⟨rfl, rfl⟩
      · have hxc : ((x.toNat : Int) == cz) = false := by rw [← HCZ.out, u8_eqc]; simp [hx]
        have HX := Lib.hid hx
        clear hsp hall hll hget hx
        go_wp2_with fail
        go_roundg post.length
        case measure => simp
        case rel => exact ⟨pre ++ [x], post, by rw [HSP.out.1]; simp, rfl, by simp, rfl, fun y hy => by
          rcases List.mem_append.1 hy with h | h
          · exact HSP.out.2 y h
          · rw [List.mem_singleton.1 h]; exact HX.out⟩
theorem bs_ext (t : List UInt8) (a b : Nat) : (bs t).extract a b = bs ((t.drop a).take (b - a)) := by
  apply ByteArray.ext
  rw [ByteArray.data_extract]
  apply Array.toList_inj.1
  rw [Array.toList_extract]
  simp [bs, List.extract]
theorem bs_same {x y : List UInt8} : ((bs x).toList == (bs y).toList) = decide (x = y) := by
  rw [Lib.toList_data, Lib.toList_data]
  show (x == y) = decide (x = y)
  by_cases h : x = y <;> simp [h]
def prefR (s t : List UInt8) : Bool := decide (s.length ≤ t.length) && (t.take s.length == s)
set_option maxRecDepth 1000000 in
theorem rprefix_any (w : World) (s t : List UInt8) (hs : s.length ≤ 1000000) (ht : t.length ≤ 1000000) : Calls Tryz.prog 98 #[.string (bs s), .string (bs t)] w fun e w' => e = .returned (.bool (prefR s t)) ∧ w' = w := by
  obtain ⟨res, hres⟩ : ∃ res, prefR s t = res := ⟨_, rfl⟩
  rw [hres]
  have HRES := Lib.hid hres
  have hsz : (bs s).size = s.length := rfl
  have htz : (bs t).size = t.length := rfl
  clear hres
  by_cases hle : s.length ≤ t.length
  · have hleI : (s.length : Int) ≤ (t.length : Int) := by omega
    have he := bs_ext t 0 s.length
    rw [List.drop_zero, Nat.sub_zero] at he
    obtain ⟨y, hy⟩ : ∃ y, t.take s.length = y := ⟨_, rfl⟩
    rw [hy] at he
    have hq := bs_same (x := y) (y := s)
    have hr : res = decide (y = s) := by
      rw [← HRES.out]; unfold prefR; rw [decide_eq_true hle, hy, Bool.true_and]
      by_cases h : y = s <;> simp [h]
    subst hr
    clear HRES hy hle
    go_enter Tryz.func98, Tryz.ntmps98
    go_wp2_with fail
    go_ret
    exact ⟨rfl, rfl⟩
  · have hleI : ¬ (s.length : Int) ≤ (t.length : Int) := by omega
    have hr : res = false := by rw [← HRES.out]; unfold prefR; rw [decide_eq_false hle]; rfl
    subst hr
    go_enter Tryz.func98, Tryz.ntmps98
    go_wp2_with fail
    go_ret
    exact ⟨rfl, rfl⟩
/-- a text ahead of its first ':', and behind it; whether there is one -/
def partsR (s : List UInt8) : List UInt8 × List UInt8 × Bool :=
  if (s.takeWhile (fun x => !(x == 58))).length < s.length then (s.takeWhile (fun x => !(x == 58)), s.drop ((s.takeWhile (fun x => !(x == 58))).length + 1), true) else (s, [], false)
set_option maxRecDepth 1000000 in
set_option maxHeartbeats 4000000 in
theorem rpartsc_any (w : World) (s : List UInt8) (hs : s.length ≤ 1000000) : Calls Tryz.prog 138 #[.string (bs s)] w fun e w' => e = .returned (.tuple #[.string (bs (partsR s).1), .string (bs (partsR s).2.1), .bool (partsR s).2.2]) ∧ Keeps [] w w' := by
  obtain ⟨⟨r1, r2, r3⟩, hres⟩ : ∃ res, partsR s = res := ⟨_, rfl⟩
  rw [hres]
  dsimp only
  have HRES := Lib.hid hres
  have hsz : (bs s).size = s.length := rfl
  have HE := Lib.hid (show (⟨#[]⟩ : ByteArray) = bs [] from rfl)
  clear hres
  go_enter Tryz.func138, Tryz.ntmps138
  go_wp2_with fail
  go_loopg [5] s.length (fun g iv wx => ∃ pre post : List UInt8, s = pre ++ post ∧ g = post.length ∧ iv = .int .i64 pre.length ∧ wx = w ∧ ∀ x ∈ pre, ¬ x = 58)
  case atStart => exact ⟨[], s, rfl, rfl, rfl, rfl, by simp⟩
  case round =>
    obtain ⟨pre, post, hsp, hg, rfl, hwx, hall⟩ := hrel
    subst hg
    obtain rfl := hwx.symm
    clear hwx
    have hll : s.length = pre.length + post.length := by rw [hsp]; simp
    cases post with
    | nil =>
      have hlt : ¬ (pre.length : Int) < (s.length : Int) := by simp at hll; omega
      have hr : (r1, r2, r3) = (s, [], false) := by
        rw [← HRES.out]
        unfold partsR
        have hps : s = pre := by rw [hsp]; simp
        rw [hps, take_all hall, if_neg (by omega)]
      injection hr with h1 h2
      injection h2 with h2 h3
      subst h1 h2 h3
      clear hsp hall hll HRES
      go_wp2_with fail
      go_ret3
      exact ⟨rfl, Keeps.refl _ _⟩
    | cons x post =>
      have hlt : (pre.length : Int) < (s.length : Int) := by simp at hll; omega
      have hget : ∀ h, (bs s)[pre.length]'h = x := by rw [hsp]; exact fun h => bs_mid pre post x h
      have hlt3 : pre.length < (bs s).size := by rw [bs_size]; simp at hll; omega
      have hg2 := hget hlt3
      have HSP := Lib.hid (And.intro hsp hall)
      have hpb : pre.length + 1 ≤ s.length := by simp at hll; omega
      by_cases hx : x = 58
      · have hxc : ((x.toNat : Int) == 58) = true := by subst hx; rfl
        obtain ⟨P1, hP1⟩ : ∃ P, pre.length + 1 = P := ⟨_, rfl⟩
        have hr : (r1, r2, r3) = (pre, s.drop P1, true) := by
          rw [← HRES.out]
          unfold partsR
          rw [hsp, hx, take_at_c hall, if_pos (by simp), hP1]
        injection hr with h1 h2
        injection h2 with h2 h3
        have e1 : (bs s).extract 0 pre.length = bs pre := by
          rw [bs_ext, List.drop_zero, Nat.sub_zero, hsp, List.take_left]
        have e2 : (bs s).extract P1 s.length = bs (s.drop P1) := by
          rw [bs_ext, List.take_of_length_le (by rw [List.length_drop]; omega)]
        have HQ := Lib.hid (And.intro h1 (And.intro h2 h3))
        have f1 : IntKind.i64.wrap ((pre.length : Int) + 1) = (P1 : Int) := by rw [wrap_in] <;> omega
        have f2 : (P1 : Int) ≤ (s.length : Int) := by omega
        have f3 : (0 : Int) ≤ (P1 : Int) := by omega
        have f4 : (pre.length : Int) ≤ (s.length : Int) := by omega
        clear hsp hall hll hget hx HRES h1 h2 h3 hP1
        go_wp2_with fail
        go_region_held3 (fun _ => True) (trivial) (fail)
        all_goals
          go_wp2_with fail
          go_ret3
          exact ⟨by rw [HQ.out.1, HQ.out.2.1, HQ.out.2.2]; first | rfl | simp [e1, e2], (Keeps.refl [] _).drew'⟩
      · have hxc : ((x.toNat : Int) == 58) = false := by
          have := u8_eqc (x := x) (c := 58)
          rw [show ((58 : UInt8).toNat : Int) = 58 from rfl] at this
          rw [this]; simp [hx]
        have HX := Lib.hid hx
        clear hsp hall hll hget hx
        go_wp2_with fail
        go_roundg post.length
        case measure => simp
        case rel => exact ⟨pre ++ [x], post, by rw [HSP.out.1]; simp, rfl, by simp, rfl, fun y hy => by
          rcases List.mem_append.1 hy with h | h
          · exact HSP.out.2 y h
          · rw [List.mem_singleton.1 h]; exact HX.out⟩
/-- a number of digits -/
def valN (l : List UInt8) : Nat := l.foldl (fun n x => 10 * n + (x.toNat - 48)) 0
theorem valN_snoc (l : List UInt8) (x : UInt8) : valN (l ++ [x]) = 10 * valN l + (x.toNat - 48) := by unfold valN; rw [List.foldl_append]; rfl
theorem valN_lt0 : ∀ (l : List UInt8) (a : Nat), l.all digB = true → l.foldl (fun n x => 10 * n + (x.toNat - 48)) a < (a + 1) * 10 ^ l.length
  | [], a, _ => by simp
  | x :: t, a, h => by
    rw [List.all_cons, Bool.and_eq_true] at h
    have h2 := h.1
    unfold digB at h2
    simp at h2
    rw [List.foldl_cons, List.length_cons, Nat.pow_succ]
    refine Nat.lt_of_lt_of_le (valN_lt0 t _ h.2) ?_
    have : 10 * a + (x.toNat - 48) + 1 ≤ (a + 1) * 10 := by omega
    calc (10 * a + (x.toNat - 48) + 1) * 10 ^ t.length ≤ ((a + 1) * 10) * 10 ^ t.length := Nat.mul_le_mul_right _ this
      _ = (a + 1) * (10 ^ t.length * 10) := by rw [Nat.mul_assoc, Nat.mul_comm 10]
theorem valN_lt {l : List UInt8} (h : l.all digB = true) : valN l < 10 ^ l.length := by
  have := valN_lt0 l 0 h
  simpa [valN] using this
def portR (s : List UInt8) : Bool := s.all digB && (decide (s.length ≤ 5) && decide (valN s ≤ 65535))
set_option maxRecDepth 1000000 in
set_option maxHeartbeats 4000000 in
theorem rport_any (w : World) (s : List UInt8) (hs : s.length ≤ 1000000) : Calls Tryz.prog 139 #[.string (bs s)] w fun e w' => e = .returned (.bool (portR s)) ∧ w' = w := by
  obtain ⟨res, hres⟩ : ∃ res, portR s = res := ⟨_, rfl⟩
  rw [hres]
  have HRES := Lib.hid hres
  have hsz : (bs s).size = s.length := rfl
  clear hres
  go_enter Tryz.func139, Tryz.ntmps139
  go_wp2_with fail
  go_loopg [3, 4] s.length (fun g nv iv wx => ∃ (pre post : List UInt8) (nz : Int), s = pre ++ post ∧ g = post.length ∧ nv = .int .i64 nz ∧ iv = .int .i64 pre.length ∧ wx = w ∧ pre.all digB = true ∧ (pre.length ≤ 5 → nz = valN pre))
  case atStart => exact ⟨[], s, 0, rfl, rfl, rfl, rfl, rfl, rfl, fun _ => rfl⟩
  case round =>
    obtain ⟨pre, post, nz, hsp, hg, rfl, rfl, hwx, hall, hnz⟩ := hrel
    subst hg
    obtain rfl := hwx.symm
    clear hwx
    have hll : s.length = pre.length + post.length := by rw [hsp]; simp
    cases post with
    | nil =>
      have hps : pre = s := by rw [hsp]; simp
      subst hps
      have hlt : ¬ (pre.length : Int) < (pre.length : Int) := by omega
      by_cases h5 : pre.length ≤ 5
      · have h5I : (pre.length : Int) ≤ 5 := by omega
        have hr : res = decide (nz ≤ 65535) := by
          rw [← HRES.out]
          unfold portR
          rw [hall, Bool.true_and, decide_eq_true h5, Bool.true_and, hnz h5]
          by_cases hq : valN pre ≤ 65535
          · rw [decide_eq_true hq, decide_eq_true (by omega)]
          · rw [decide_eq_false hq, decide_eq_false (by omega)]
        subst hr
        clear hsp hall hll hnz h5 HRES
        go_wp2_with fail
        go_ret
        exact ⟨rfl, rfl⟩
      · have h5I : ¬ (pre.length : Int) ≤ 5 := by omega
        have hr : res = false := by
          rw [← HRES.out]
          unfold portR
          rw [decide_eq_false h5]; simp
        subst hr
        clear hsp hall hll hnz h5 HRES
        go_wp2_with fail
        go_ret
        exact ⟨rfl, rfl⟩
    | cons x post =>
      have hlt : (pre.length : Int) < (s.length : Int) := by simp at hll; omega
      have hget : ∀ h, (bs s)[pre.length]'h = x := by rw [hsp]; exact fun h => bs_mid pre post x h
      have hlt3 : pre.length < (bs s).size := by rw [bs_size]; simp at hll; omega
      have hg2 := hget hlt3
      have hpb : pre.length ≤ 1000000 := by simp at hll; omega
      have HD := Lib.hid (rdigit_any w x)
      cases hd : digB x with
      | false =>
        rw [hd] at HD
        have hr : res = false := by
          rw [← HRES.out]
          unfold portR
          rw [show s.all digB = false from List.all_eq_false.2 ⟨x, by rw [hsp]; simp, by rw [hd]; simp⟩]; rfl
        subst hr
        clear hsp hall hll hnz hget hd HRES
        go_wp2_with (first | (go_at_call 137; refine HD.out.mono ?_; rintro e w1 ⟨rfl, hw1⟩; obtain rfl := hw1.symm; clear hw1))
        go_ret
        exact ⟨rfl, rfl⟩
      | true =>
        rw [hd] at HD
        have hx1 : (48 : Int) ≤ (x.toNat : Int) := by unfold digB at hd; simp at hd; omega
        have hx2 : (x.toNat : Int) ≤ 57 := by unfold digB at hd; simp at hd; omega
        obtain ⟨D, hD⟩ : ∃ D : Int, (x.toNat : Int) - 48 = D := ⟨_, rfl⟩
        obtain ⟨M, hM⟩ : ∃ M : Int, IntKind.i64.wrap (10 * nz) = M := ⟨_, rfl⟩
        obtain ⟨S, hS⟩ : ∃ S : Int, IntKind.i64.wrap (M + D) = S := ⟨_, rfl⟩
        have HV := Lib.hid (show (pre ++ [x]).length ≤ 5 → S = (valN (pre ++ [x]) : Nat) by
          intro hlen
          rw [List.length_append, List.length_singleton] at hlen
          have h1 := hnz (by omega)
          have h2 := valN_lt hall
          have h3 : (10 : Nat) ^ pre.length ≤ 10 ^ 4 := Nat.pow_le_pow_right (by omega) (by omega)
          have h4 : M = 10 * nz := by rw [← hM, wrap_in] <;> omega
          have h5 : S = M + D := by rw [← hS, wrap_in] <;> omega
          rw [h5, h4, ← hD, h1, valN_snoc]
          omega)
        have HSP := Lib.hid (show s = (pre ++ [x]) ++ post ∧ (pre ++ [x]).all digB = true from ⟨by rw [hsp]; simp, by rw [List.all_append, hall]; simp [hd]⟩)
        have f1 : IntKind.u8.wrap ((x.toNat : Int) - 48) = D := by rw [hD, IntKind.wrap_u8]; omega
        have f2 : IntKind.i64.wrap D = D := by rw [wrap_in] <;> omega
        clear hsp hall hll hnz hget hd hx1 hx2 hD
        go_wp2_with (first | (go_at_call 137; refine HD.out.mono ?_; rintro e w1 ⟨rfl, hw1⟩; obtain rfl := hw1.symm; clear hw1))
        go_roundg post.length
        case measure => simp
        case rel => exact ⟨pre ++ [x], post, S, HSP.out.1, rfl, by first | rfl | simp [hM, hS, f1, f2], by simp, rfl, HSP.out.2, HV.out⟩
end Go.Proofs.YtpoheemjdieogaaGreatDoor

namespace Go.Proofs.YtpoheemjdieogaaGreatDoor
open Go.RowKit Go.Lib
set_option linter.unusedVariables false
set_option linter.unusedSimpArgs false

/-- can a text begin a host's name -/
def scanB : Bool → List UInt8 → Bool
  | _, [] => true
  | pd, c :: t => hostB c && !(decide (c = 46) && pd) && scanB (decide (c = 46)) t
def beginsR (s : List UInt8) : Bool := !(decide (253 < s.length) || (decide (s.length = 253) && decide (s[252]? = some 46))) && scanB true s
theorem host_parts (x : UInt8) : hostB x = (rletB x || digB x || decide (x.toNat = 45) || decide (x.toNat = 95) || decide (x.toNat = 46)) := by
  unfold hostB rletB
  rfl
/-- the loop's beginning -/
def preD (pre : List UInt8) : Bool := decide (pre = []) || decide (pre.getLast? = some 46)
theorem preD_snoc (pre : List UInt8) (x : UInt8) : preD (pre ++ [x]) = decide (x = 46) := by unfold preD; simp
theorem nat_ne {x : UInt8} {n : Nat} (h : ¬ x.toNat = n) : ((x.toNat : Int) != (n : Int)) = true := by
  have : ¬ (x.toNat : Int) = (n : Int) := by omega
  simp [this]
theorem nat_eq {x : UInt8} {n : Nat} (h : x.toNat = n) : ((x.toNat : Int) != (n : Int)) = false := by simp [h]
set_option maxRecDepth 1000000 in
set_option maxHeartbeats 8000000 in
theorem rbegins_any (w : World) (s : List UInt8) (hs : s.length ≤ 1000000) : Calls Tryz.prog 140 #[.string (bs s)] w fun e w' => e = .returned (.bool (beginsR s)) ∧ w' = w := by
  obtain ⟨res, hres⟩ : ∃ res, beginsR s = res := ⟨_, rfl⟩
  rw [hres]
  have HRES := Lib.hid hres
  have hsz : (bs s).size = s.length := rfl
  clear hres
  go_enter Tryz.func140, Tryz.ntmps140
  go_upto_region 1 with fail
  go_cut [17] (fun bv wx => ∃ d : Bool, bv = .bool d ∧ Hid (wx = w ∧ d = (decide (253 < s.length) || (decide (s.length = 253) && decide (s[252]? = some 46)))))
  case first =>
    by_cases h1 : 253 < s.length
    · have h1I : decide ((253 : Int) < (s.length : Int)) = true := decide_eq_true (by omega)
      have HG := Lib.hid (decide_eq_true h1)
      clear h1
      go_wp2_with fail
      go_meet
      exact ⟨true, rfl, Lib.hid ⟨rfl, by rw [HG.out]; rfl⟩⟩
    · have h1I : decide ((253 : Int) < (s.length : Int)) = false := decide_eq_false (by omega)
      have HG := Lib.hid (decide_eq_false h1)
      by_cases h2 : s.length = 253
      · have h2I : ((s.length : Int) == 253) = true := by rw [beq_iff_eq]; omega
        obtain ⟨y, hy⟩ : ∃ y, s[252]? = some y := ⟨_, List.getElem?_eq_getElem (by omega)⟩
        have hlt : 252 < (bs s).size := by rw [bs_size]; omega
        have hgy : (bs s)[252]'hlt = y := by
          have h3 := Lib.data_getElem? (bs s) 252 hlt
          have h4 : (bs s).data.toList[252]? = some y := hy
          rw [h4] at h3
          injection h3 with h3
          exact h3.symm
        have f1 : (252 : Int) < (s.length : Int) := by omega
        have HG2 := Lib.hid (show (decide (253 < s.length) || (decide (s.length = 253) && decide (s[252]? = some 46))) = (y == 46) by
          rw [HG.out, decide_eq_true h2, hy]
          by_cases h : y = 46 <;> simp [h])
        have n5 := u8_eqc (x := y) (c := 46)
        rw [show ((46 : UInt8).toNat : Int) = 46 from rfl] at n5
        clear h1 h2 hy HG
        go_wp2_with fail
        go_meet
        exact ⟨y == 46, by first | rfl | simp [n5], Lib.hid ⟨rfl, HG2.out.symm⟩⟩
      · have h2I : ((s.length : Int) == 253) = false := by rw [beq_eq_false_iff_ne]; omega
        have HG2 := Lib.hid (decide_eq_false h2)
        clear h1 h2
        go_wp2_with fail
        go_meet
        exact ⟨false, rfl, Lib.hid ⟨rfl, by rw [HG.out, HG2.out]; rfl⟩⟩
  case rest =>
    obtain ⟨d, rfl, HD⟩ := hcut
    obtain rfl := HD.out.1.symm
    have HB := Lib.hid (show res = (!d && scanB true s) by rw [← HRES.out, HD.out.2]; rfl)
    clear HD HRES
    cases d with
    | true =>
      have hr : res = false := by rw [HB.out]; rfl
      subst hr
      clear HB
      go_wp2_with fail
      go_ret
      exact ⟨rfl, rfl⟩
    | false =>
      have HR := Lib.hid (show res = scanB true s by rw [HB.out]; rfl)
      clear HB
      go_wp2_with fail
      go_loopg [3, 4] s.length (fun g iv _ wx => ∃ (pre post : List UInt8), s = pre ++ post ∧ g = post.length ∧ iv = .int .i64 pre.length ∧ wx = w ∧ Hid (res = scanB (preD pre) post))
      case atStart => exact ⟨[], s, rfl, rfl, rfl, rfl, Lib.hid (by rw [HR.out]; rfl)⟩
      case round =>
        obtain ⟨pre, post, hsp, hg, rfl, hwx, HSC⟩ := hrel
        subst hg
        obtain rfl := hwx.symm
        clear hwx
        have hll : s.length = pre.length + post.length := by rw [hsp]; simp
        cases post with
        | nil =>
          have hlt : ¬ (pre.length : Int) < (s.length : Int) := by simp at hll; omega
          have hr : res = true := HSC.out
          subst hr
          clear hsp HSC hll HR
          go_wp2_with fail
          go_ret
          exact ⟨rfl, rfl⟩
        | cons x post =>
          have hlt : (pre.length : Int) < (s.length : Int) := by simp at hll; omega
          have hget : ∀ h, (bs s)[pre.length]'h = x := by rw [hsp]; exact fun h => bs_mid pre post x h
          have hlt3 : pre.length < (bs s).size := by rw [bs_size]; simp at hll; omega
          have hg2 := hget hlt3
          have hpb : pre.length ≤ 1000000 := by simp at hll; omega
          have CL := Lib.hid (rletter_any w x)
          have CD := Lib.hid (rdigit_any w x)
          have HNX := Lib.hid (show s = (pre ++ [x]) ++ post by rw [hsp]; simp)
          have HSC2 := Lib.hid (show res = (hostB x && !(decide (x = 46) && preD pre) && scanB (decide (x = 46)) post) from HSC.out)
          have HPS := Lib.hid hsp
          clear HSC hget hll hsp HR
          go_upto_region 7 with fail
          go_cut [46] from 27 to 45 (fun bv wx => ∃ d : Bool, bv = .bool d ∧ Hid (wx = w ∧ d = !hostB x))
          case first =>
            cases hl : rletB x with
            | true =>
              rw [hl] at CL
              have HG := Lib.hid (show hostB x = true by rw [host_parts, hl]; rfl)
              clear hl
              go_wp2_with (first | (go_at_call 136; refine CL.out.mono ?_; rintro e w1 ⟨rfl, hw1⟩; obtain rfl := hw1.symm; clear hw1) | (go_at_call 137; refine CD.out.mono ?_; rintro e w1 ⟨rfl, hw1⟩; obtain rfl := hw1.symm; clear hw1))
              go_meet
              exact ⟨false, rfl, Lib.hid ⟨rfl, by rw [HG.out]; rfl⟩⟩
            | false =>
              rw [hl] at CL
              cases hd : digB x with
              | true =>
                rw [hd] at CD
                have HG := Lib.hid (show hostB x = true by rw [host_parts, hd]; simp)
                clear hl hd
                go_wp2_with (first | (go_at_call 136; refine CL.out.mono ?_; rintro e w1 ⟨rfl, hw1⟩; obtain rfl := hw1.symm; clear hw1) | (go_at_call 137; refine CD.out.mono ?_; rintro e w1 ⟨rfl, hw1⟩; obtain rfl := hw1.symm; clear hw1))
                go_meet
                exact ⟨false, rfl, Lib.hid ⟨rfl, by rw [HG.out]; rfl⟩⟩
              | false =>
                rw [hd] at CD
                by_cases h45 : x.toNat = 45
                · have n1 : ((x.toNat : Int) != 45) = false := nat_eq h45
                  have HG := Lib.hid (show hostB x = true by rw [host_parts, decide_eq_true h45]; simp)
                  clear hl hd h45
                  go_wp2_with (first | (go_at_call 136; refine CL.out.mono ?_; rintro e w1 ⟨rfl, hw1⟩; obtain rfl := hw1.symm; clear hw1) | (go_at_call 137; refine CD.out.mono ?_; rintro e w1 ⟨rfl, hw1⟩; obtain rfl := hw1.symm; clear hw1))
                  go_meet
                  exact ⟨false, rfl, Lib.hid ⟨rfl, by rw [HG.out]; rfl⟩⟩
                · have n1 : ((x.toNat : Int) != 45) = true := nat_ne h45
                  by_cases h95 : x.toNat = 95
                  · have n2 : ((x.toNat : Int) != 95) = false := nat_eq h95
                    have HG := Lib.hid (show hostB x = true by rw [host_parts, decide_eq_true h95]; simp)
                    clear hl hd h45 h95
                    go_wp2_with (first | (go_at_call 136; refine CL.out.mono ?_; rintro e w1 ⟨rfl, hw1⟩; obtain rfl := hw1.symm; clear hw1) | (go_at_call 137; refine CD.out.mono ?_; rintro e w1 ⟨rfl, hw1⟩; obtain rfl := hw1.symm; clear hw1))
                    go_meet
                    exact ⟨false, rfl, Lib.hid ⟨rfl, by rw [HG.out]; rfl⟩⟩
                  · have n2 : ((x.toNat : Int) != 95) = true := nat_ne h95
                    by_cases h46 : x.toNat = 46
                    · have n3 : ((x.toNat : Int) != 46) = false := nat_eq h46
                      have HG := Lib.hid (show hostB x = true by rw [host_parts, decide_eq_true h46]; simp)
                      clear hl hd h45 h95 h46
                      go_wp2_with (first | (go_at_call 136; refine CL.out.mono ?_; rintro e w1 ⟨rfl, hw1⟩; obtain rfl := hw1.symm; clear hw1) | (go_at_call 137; refine CD.out.mono ?_; rintro e w1 ⟨rfl, hw1⟩; obtain rfl := hw1.symm; clear hw1))
                      go_meet
                      exact ⟨false, rfl, Lib.hid ⟨rfl, by rw [HG.out]; rfl⟩⟩
                    · have n3 : ((x.toNat : Int) != 46) = true := nat_ne h46
                      have HG := Lib.hid (show hostB x = false by rw [host_parts, hl, hd, decide_eq_false h45, decide_eq_false h95, decide_eq_false h46]; rfl)
                      clear hl hd h45 h95 h46
                      go_wp2_with (first | (go_at_call 136; refine CL.out.mono ?_; rintro e w1 ⟨rfl, hw1⟩; obtain rfl := hw1.symm; clear hw1) | (go_at_call 137; refine CD.out.mono ?_; rintro e w1 ⟨rfl, hw1⟩; obtain rfl := hw1.symm; clear hw1))
                      go_meet
                      exact ⟨true, rfl, Lib.hid ⟨rfl, by rw [HG.out]; rfl⟩⟩
          case rest =>
            obtain ⟨d, rfl, HD⟩ := hcut
            obtain rfl := HD.out.1.symm
            have HH := Lib.hid HD.out.2
            clear HD CL CD
            cases d with
            | true =>
              have hr : res = false := by
                have h := HH.out
                have : hostB x = false := by cases hh : hostB x; rfl; rw [hh] at h; cases h
                rw [HSC2.out, this]; rfl
              subst hr
              clear HSC2 HH
              go_wp2_with fail
              go_ret
              exact ⟨rfl, rfl⟩
            | false =>
              have hh : hostB x = true := by
                have h := HH.out
                cases hh : hostB x; rw [hh] at h; cases h; rfl
              have HSC3 := Lib.hid (show res = (!(decide (x = 46) && preD pre) && scanB (decide (x = 46)) post) by rw [HSC2.out, hh]; rfl)
              clear HSC2 HH hh
              go_upto_region 9 with fail
              go_cut [59] from 47 to 58 (fun bv wx => ∃ d : Bool, bv = .bool d ∧ Hid (wx = w ∧ d = (decide (x = 46) && preD pre)))
              case first =>
                by_cases hx : x = 46
                · have n4 : ((x.toNat : Int) == 46) = true := by subst hx; rfl
                  rcases List.eq_nil_or_concat pre with hp | ⟨p0, y, hp⟩
                  · have hz : ((pre.length : Int) == 0) = true := by rw [hp]; rfl
                    have HG := Lib.hid (show (decide (x = 46) && preD pre) = true by rw [hp, hx]; rfl)
                    clear hx hp
                    go_wp2_with fail
                    go_meet
                    exact ⟨true, rfl, Lib.hid ⟨rfl, HG.out.symm⟩⟩
                  · have hp' : pre = p0 ++ [y] := by simpa using hp
                    have hz : ((pre.length : Int) == 0) = false := by rw [hp', beq_eq_false_iff_ne]; simp; omega
                    obtain ⟨P0, hP0⟩ : ∃ P, p0.length = P := ⟨_, rfl⟩
                    have hpl : pre.length = P0 + 1 := by rw [hp']; simp [hP0]
                    have hgy : ∀ h, (bs s)[P0]'h = y := by
                      have e1 : s = p0 ++ y :: (x :: post) := by rw [HPS.out, hp']; simp
                      rw [e1, ← hP0]
                      exact fun h => bs_mid p0 (x :: post) y h
                    have hlt4 : P0 < (bs s).size := by rw [bs_size] at hlt3 ⊢; omega
                    have hgy2 := hgy hlt4
                    have g1 : (0 : Int) ≤ (P0 : Int) := by omega
                    have g2 : (P0 : Int) < (s.length : Int) := by omega
                    have n5 := u8_eqc (x := y) (c := 46)
                    rw [show ((46 : UInt8).toNat : Int) = 46 from rfl] at n5
                    have HG := Lib.hid (show (decide (x = 46) && preD pre) = (y == 46) by
                      rw [hx, hp', preD_snoc]
                      by_cases h : y = 46 <;> simp [h])
                    have f1 : IntKind.i64.wrap ((pre.length : Int) - 1) = (P0 : Int) := by rw [wrap_in] <;> omega
                    clear hx hp hp' hgy hP0 hpl
                    go_wp2_with fail
                    go_meet
                    exact ⟨y == 46, by first | rfl | simp [n5], Lib.hid ⟨rfl, HG.out.symm⟩⟩
                · have n4 : ((x.toNat : Int) == 46) = false := by
                    have := u8_eqc (x := x) (c := 46)
                    rw [show ((46 : UInt8).toNat : Int) = 46 from rfl] at this
                    rw [this]; simp [hx]
                  have HG := Lib.hid (show (decide (x = 46) && preD pre) = false by rw [decide_eq_false hx]; rfl)
                  clear hx
                  go_wp2_with fail
                  go_meet
                  exact ⟨false, rfl, Lib.hid ⟨rfl, HG.out.symm⟩⟩
              case rest =>
                obtain ⟨d, rfl, HD⟩ := hcut
                obtain rfl := HD.out.1.symm
                have HH := Lib.hid HD.out.2
                clear HD
                have HSC4 := Lib.hid (show res = (!d && scanB (decide (x = 46)) post) by rw [HSC3.out, HH.out])
                clear HSC3 HH
                cases d with
                | true =>
                  have hr : res = false := by rw [HSC4.out]; rfl
                  subst hr
                  clear HSC4
                  go_wp2_with fail
                  go_ret
                  exact ⟨rfl, rfl⟩
                | false =>
                  have HEND := Lib.hid (show res = scanB (preD (pre ++ [x])) post by rw [HSC4.out, preD_snoc]; rfl)
                  clear HSC4
                  go_wp2_with fail
                  go_roundg post.length
                  case measure => simp
                  case rel => exact ⟨pre ++ [x], post, HNX.out, rfl, by simp, rfl, HEND⟩
end Go.Proofs.YtpoheemjdieogaaGreatDoor

namespace Go.Proofs.YtpoheemjdieogaaGreatDoor
open Go.RowKit Go.Lib
set_option linter.unusedVariables false
set_option linter.unusedSimpArgs false

def authR (s : List UInt8) : Option (List UInt8) := match foldA (partsR s).1 with
  | none => none
  | some nm => if (partsR s).2.2 = true ∧ ((partsR s).2.1 = [] ∨ portR (partsR s).2.1 = false) then none else some nm
def authV (s : List UInt8) : List UInt8 × Bool := match authR s with
  | none => ([], false)
  | some nm => (nm, true)
def beginAR (s : List UInt8) : Bool := if (partsR s).2.2 = true then (foldA (partsR s).1).isSome && portR (partsR s).2.1 else beginsR (partsR s).1
theorem partsR_len (s : List UInt8) : (partsR s).1.length ≤ s.length ∧ (partsR s).2.1.length ≤ s.length := by
  unfold partsR
  split
  · exact ⟨(List.takeWhile_sublist _).length_le, by simp only [List.length_drop]; omega⟩
  · exact ⟨Nat.le_refl _, by simp⟩
theorem bs_isE (p : List UInt8) : (bs p).toList.isEmpty = p.isEmpty := by rw [Lib.toList_data]; rfl
theorem rfold_bs (w : World) (h : List UInt8) : Calls Tryz.prog 134 #[.string (bs h)] w fun e w' => e = .returned (.tuple #[.string (bs ((foldA h).getD [])), .bool (foldA h).isSome]) ∧ Keeps [] w w' := by
  refine (rfold_any w (bs h)).mono ?_
  rintro e w' ⟨rfl, k⟩
  refine ⟨?_, k⟩
  cases hf : foldA h with
  | none => rw [(foldB_not (s := bs h) hf).1, (foldB_not (s := bs h) hf).2]; rfl
  | some l => rw [show foldB (bs h) = ⟨l.toArray⟩ from (foldB_some hf).1, show foldIs (bs h) = true from (foldB_some hf).2]; rfl
set_option maxRecDepth 1000000 in
set_option maxHeartbeats 4000000 in
theorem rauthority_any (w : World) (s : List UInt8) (hs : s.length ≤ 1000000) : Calls Tryz.prog 103 #[.string (bs s)] w fun e w' => e = .returned (.tuple #[.string (bs (authV s).1), .bool (authV s).2]) ∧ Keeps [] w w' := by
  have HP := Lib.hid (rpartsc_any w s hs)
  have hpl := (partsR_len s).2
  have HFO := Lib.hid (fun w1 => rfold_bs w1 (partsR s).1)
  have HPO := Lib.hid (fun w1 => rport_any w1 (partsR s).2.1 (by omega))
  obtain ⟨⟨nm, ok⟩, hres⟩ : ∃ r, authV s = r := ⟨_, rfl⟩
  rw [hres]
  have HRES := Lib.hid hres
  unfold authV authR at hres
  obtain ⟨⟨h, p, is⟩, hpp⟩ : ∃ r, partsR s = r := ⟨_, rfl⟩
  rw [hpp] at HP HFO HPO hres
  dsimp only at HP HFO HPO hres ⊢
  clear HRES hpp hpl hs
  cases hf : foldA h with
  | none =>
    rw [hf] at HFO hres
    have hr : (([] : List UInt8), false) = (nm, ok) := hres
    injection hr with h1 h2
    subst h1 h2
    clear hf hres
    go_enter Tryz.func103, Tryz.ntmps103
    go_wp2_with fail
    refine HP.out.mono ?_
    rintro e w1 ⟨rfl, k1⟩
    have K1 := Lib.hid k1
    have HF := Lib.hid (HFO.out w1)
    clear k1 HP HFO
    go_wp2_with fail
    refine HF.out.mono ?_
    rintro e w2 ⟨rfl, k2⟩
    have K2 := Lib.hid (K1.out.trans k2)
    clear k2 HF
    dsimp only [Option.isSome]
    go_wp2_with fail
    go_ret2
    exact ⟨rfl, K2.out⟩
  | some l =>
    rw [hf] at HFO hres
    dsimp only [Option.getD, Option.isSome] at HFO
    have hpe := bs_isE p
    have hres : (match (if is = true ∧ (p = [] ∨ portR p = false) then none else some l) with | none => ([], false) | some nm => (nm, true)) = (nm, ok) := hres
    cases is with
    | false =>
      have hr : (l, true) = (nm, ok) := hres
      injection hr with h1 h2
      subst h1 h2
      clear hf hres hpe
      go_enter Tryz.func103, Tryz.ntmps103
      go_wp2_with fail
      refine HP.out.mono ?_
      rintro e w1 ⟨rfl, k1⟩
      have K1 := Lib.hid k1
      have HF := Lib.hid (HFO.out w1)
      clear k1 HP HFO
      go_wp2_with fail
      refine HF.out.mono ?_
      rintro e w2 ⟨rfl, k2⟩
      have K2 := Lib.hid (K1.out.trans k2)
      clear k2 HF
      go_wp2_with fail
      go_ret2
      exact ⟨rfl, K2.out⟩
    | true =>
      by_cases hp : p = []
      · have hr : (([] : List UInt8), false) = (nm, ok) := by rw [← hres, if_pos ⟨rfl, .inl hp⟩]
        injection hr with h1 h2
        subst h1 h2
        have hpe2 : (bs p).toList.isEmpty = true := by rw [hpe, hp]; rfl
        clear hf hres hpe hp
        go_enter Tryz.func103, Tryz.ntmps103
        go_wp2_with fail
        refine HP.out.mono ?_
        rintro e w1 ⟨rfl, k1⟩
        have K1 := Lib.hid k1
        have HF := Lib.hid (HFO.out w1)
        clear k1 HP HFO
        go_wp2_with fail
        refine HF.out.mono ?_
        rintro e w2 ⟨rfl, k2⟩
        have K2 := Lib.hid (K1.out.trans k2)
        clear k2 HF
        go_wp2_with fail
        go_ret2
        exact ⟨rfl, K2.out⟩
      · have hpe2 : (bs p).toList.isEmpty = false := by rw [hpe]; cases p; exact absurd rfl hp; rfl
        cases hq : portR p with
        | true =>
          have hr : (l, true) = (nm, ok) := by rw [← hres, if_neg (by rintro ⟨_, h | h⟩; exact hp h; rw [hq] at h; cases h)]
          injection hr with h1 h2
          subst h1 h2
          rw [hq] at HPO
          clear hf hres hpe hp hq
          go_enter Tryz.func103, Tryz.ntmps103
          go_wp2_with fail
          refine HP.out.mono ?_
          rintro e w1 ⟨rfl, k1⟩
          have K1 := Lib.hid k1
          have HF := Lib.hid (HFO.out w1)
          clear k1 HP HFO
          go_wp2_with fail
          refine HF.out.mono ?_
          rintro e w2 ⟨rfl, k2⟩
          have K2 := Lib.hid (K1.out.trans k2)
          have HQ := Lib.hid (HPO.out w2)
          clear k2 HF HPO
          go_wp2_with fail
          refine HQ.out.mono ?_
          rintro e w3 ⟨rfl, h3⟩
          obtain rfl := h3.symm
          clear h3 HQ
          go_wp2_with fail
          go_ret2
          exact ⟨rfl, K2.out⟩
        | false =>
          have hr : (([] : List UInt8), false) = (nm, ok) := by rw [← hres, if_pos ⟨rfl, .inr hq⟩]
          injection hr with h1 h2
          subst h1 h2
          rw [hq] at HPO
          clear hf hres hpe hp hq
          go_enter Tryz.func103, Tryz.ntmps103
          go_wp2_with fail
          refine HP.out.mono ?_
          rintro e w1 ⟨rfl, k1⟩
          have K1 := Lib.hid k1
          have HF := Lib.hid (HFO.out w1)
          clear k1 HP HFO
          go_wp2_with fail
          refine HF.out.mono ?_
          rintro e w2 ⟨rfl, k2⟩
          have K2 := Lib.hid (K1.out.trans k2)
          have HQ := Lib.hid (HPO.out w2)
          clear k2 HF HPO
          go_wp2_with fail
          refine HQ.out.mono ?_
          rintro e w3 ⟨rfl, h3⟩
          obtain rfl := h3.symm
          clear h3 HQ
          go_wp2_with fail
          go_ret2
          exact ⟨rfl, K2.out⟩
set_option maxRecDepth 1000000 in
set_option maxHeartbeats 4000000 in
theorem rbeginA_any (w : World) (s : List UInt8) (hs : s.length ≤ 1000000) : Calls Tryz.prog 104 #[.string (bs s)] w fun e w' => e = .returned (.bool (beginAR s)) ∧ Keeps [] w w' := by
  have HP := Lib.hid (rpartsc_any w s hs)
  have hpl := partsR_len s
  have HFO := Lib.hid (fun w1 => rfold_bs w1 (partsR s).1)
  have HPO := Lib.hid (fun w1 => rport_any w1 (partsR s).2.1 (by omega))
  have HBO := Lib.hid (fun w1 => rbegins_any w1 (partsR s).1 (by omega))
  obtain ⟨res, hres⟩ : ∃ r, beginAR s = r := ⟨_, rfl⟩
  rw [hres]
  unfold beginAR at hres
  obtain ⟨⟨h, p, is⟩, hpp⟩ : ∃ r, partsR s = r := ⟨_, rfl⟩
  rw [hpp] at HP HFO HPO HBO hres
  dsimp only at HP HFO HPO HBO hres
  clear hpp hpl hs
  cases is with
  | false =>
    have hr : beginsR h = res := hres
    rw [hr] at HBO
    clear hres hr
    go_enter Tryz.func104, Tryz.ntmps104
    go_wp2_with fail
    refine HP.out.mono ?_
    rintro e w1 ⟨rfl, k1⟩
    have K1 := Lib.hid k1
    have HB := Lib.hid (HBO.out w1)
    clear k1 HP HBO
    go_wp2_with fail
    refine HB.out.mono ?_
    rintro e w2 ⟨rfl, h2⟩
    obtain rfl := h2.symm
    clear h2 HB
    go_wp2_with fail
    go_ret
    exact ⟨rfl, K1.out⟩
  | true =>
    have hr : ((foldA h).isSome && portR p) = res := hres
    cases hf : (foldA h).isSome with
    | false =>
      rw [hf] at HFO hr
      have hr : false = res := hr
      subst hr
      clear hres hf
      go_enter Tryz.func104, Tryz.ntmps104
      go_wp2_with fail
      refine HP.out.mono ?_
      rintro e w1 ⟨rfl, k1⟩
      have K1 := Lib.hid k1
      have HF := Lib.hid (HFO.out w1)
      clear k1 HP HFO
      go_wp2_with fail
      refine HF.out.mono ?_
      rintro e w2 ⟨rfl, k2⟩
      have K2 := Lib.hid (K1.out.trans k2)
      clear k2 HF
      go_wp2_with fail
      go_ret
      exact ⟨rfl, K2.out⟩
    | true =>
      rw [hf] at HFO hr
      have hr : portR p = res := hr
      rw [hr] at HPO
      clear hres hf hr
      go_enter Tryz.func104, Tryz.ntmps104
      go_wp2_with fail
      refine HP.out.mono ?_
      rintro e w1 ⟨rfl, k1⟩
      have K1 := Lib.hid k1
      have HF := Lib.hid (HFO.out w1)
      clear k1 HP HFO
      go_wp2_with fail
      refine HF.out.mono ?_
      rintro e w2 ⟨rfl, k2⟩
      have K2 := Lib.hid (K1.out.trans k2)
      have HQ := Lib.hid (HPO.out w2)
      clear k2 HF HPO
      go_wp2_with fail
      refine HQ.out.mono ?_
      rintro e w3 ⟨rfl, h3⟩
      obtain rfl := h3.symm
      clear h3 HQ
      go_wp2_with fail
      go_ret
      exact ⟨rfl, K2.out⟩
end Go.Proofs.YtpoheemjdieogaaGreatDoor

namespace Go.Proofs.YtpoheemjdieogaaGreatDoor
open Go.RowKit Go.Lib
set_option linter.unusedVariables false
set_option linter.unusedSimpArgs false

def http7 : List UInt8 := [104, 116, 116, 112, 58, 47, 47]
def stopT (c : UInt8) : Bool := c == 47 || c == 63
def headT (r : List UInt8) : Nat := (r.takeWhile (fun c => !stopT c)).length
def restR (r : List UInt8) : Bool × Bool × List UInt8 :=
  if (r.drop (headT r)).all seenB = false then (false, false, []) else
  ((authV (r.take (headT r))).2 || (decide (headT r = r.length) && beginAR r), (authV (r.take (headT r))).2, (authV (r.take (headT r))).1)
def targetR : List UInt8 → Bool × Bool × List UInt8
  | [] => (true, false, [])
  | c :: t => if c = 42 then (decide (t = []), decide (t = []), []) else if c = 47 then ((c :: t).all seenB, (c :: t).all seenB, []) else
    if prefR (c :: t) http7 = true then (true, false, []) else if prefR http7 (c :: t) = false then (false, false, []) else restR ((c :: t).drop 7)
theorem headT_le (r : List UInt8) : headT r ≤ r.length := (List.takeWhile_sublist _).length_le
theorem headT_yes {c : UInt8} (t : List UInt8) (h : stopT c = true) : headT (c :: t) = 0 := by unfold headT; rw [List.takeWhile_cons, if_neg (by simp [h])]; rfl
theorem headT_no {c : UInt8} (t : List UInt8) (h : stopT c = false) : headT (c :: t) = headT t + 1 := by unfold headT; rw [List.takeWhile_cons, if_pos (by simp [h])]; rfl
set_option maxRecDepth 1000000 in
set_option maxHeartbeats 8000000 in
theorem rtarget_any (w : World) (s : List UInt8) (hs : s.length ≤ 1000000) : Calls Tryz.prog 97 #[.string (bs s)] w fun e w' => e = .returned (.tuple #[.bool (targetR s).1, .bool (targetR s).2.1, .string (bs (targetR s).2.2)]) ∧ Keeps [] w w' := by
  obtain ⟨⟨r1, r2, r3⟩, hres⟩ : ∃ r, targetR s = r := ⟨_, rfl⟩
  rw [hres]
  dsimp only
  have hsz : (bs s).size = s.length := rfl
  have hie := bs_isE s
  cases s with
  | nil =>
    have hr : (true, false, []) = (r1, r2, r3) := hres
    injection hr with h1 h2
    injection h2 with h2 h3
    subst h1 h2 h3
    have hie2 : (bs ([] : List UInt8)).toList.isEmpty = true := hie
    clear hres hie
    go_enter Tryz.func97, Tryz.ntmps97
    go_wp2_with fail
    go_ret3
    exact ⟨rfl, Keeps.refl _ _⟩
  | cons c t =>
    have hie2 : (bs (c :: t)).toList.isEmpty = false := hie
    have hlt0 : 0 < (bs (c :: t)).size := by rw [bs_size]; simp
    have hg0 : (bs (c :: t))[0]'hlt0 = c := bs_mid [] t c hlt0
    have hl0 : (0 : Int) < ((c :: t).length : Int) := by simp
    have q42 := u8_eqc (x := c) (c := 42)
    have q47 := u8_eqc (x := c) (c := 47)
    rw [show ((42 : UInt8).toNat : Int) = 42 from rfl] at q42
    rw [show ((47 : UInt8).toNat : Int) = 47 from rfl] at q47
    have hres : (if c = 42 then (decide (t = []), decide (t = []), []) else if c = 47 then ((c :: t).all seenB, (c :: t).all seenB, []) else
      if prefR (c :: t) http7 = true then (true, false, []) else if prefR http7 (c :: t) = false then (false, false, []) else restR ((c :: t).drop 7)) = (r1, r2, r3) := hres
    obtain ⟨s, hss⟩ : ∃ s, c :: t = s := ⟨_, rfl⟩
    clear hie
    by_cases h42 : c = 42
    · rw [if_pos h42] at hres
      injection hres with h1 h2
      injection h2 with h2 h3
      have hq : ((bs (c :: t)).toList == ([42] : List UInt8)) = decide (t = []) := by
        rw [Lib.toList_data]
        show ((c :: t) == [42]) = _
        rw [h42]
        by_cases h : t = [] <;> simp [h]
      subst h1 h2 h3
      have q42' : ((c.toNat : Int) == 42) = true := by rw [q42]; simp [h42]
      clear q42 q47 h42 hss
      go_enter Tryz.func97, Tryz.ntmps97
      go_wp2_with fail
      go_ret3
      exact ⟨rfl, Keeps.refl _ _⟩
    · rw [if_neg h42] at hres
      have q42' : ((c.toNat : Int) == 42) = false := by rw [q42]; simp [h42]
      by_cases h47 : c = 47
      · rw [if_pos h47] at hres
        injection hres with h1 h2
        injection h2 with h2 h3
        subst h3
        have q47' : ((c.toNat : Int) == 47) = true := by rw [q47]; simp [h47]
        have HA := Lib.hid (show (c :: t).all seenB = r1 ∧ r1 = r2 from ⟨h1, by rw [← h1, ← h2]⟩)
        rw [hss] at hie2 hlt0 hl0 hsz hs HA ⊢
        have hg0' : ∀ h, (bs s)[0]'h = c := by rw [← hss]; exact fun h => bs_mid [] t c h
        have hg0 := hg0' hlt0
        clear q42 q47 h42 h47 hss h1 h2 hg0'
        go_enter Tryz.func97, Tryz.ntmps97
        go_wp2_with fail
        go_loopg [5] s.length (fun g iv wx => ∃ (pre post : List UInt8), s = pre ++ post ∧ g = post.length ∧ iv = .int .i64 pre.length ∧ wx = w ∧ Hid (r1 = post.all seenB))
        case atStart => exact ⟨[], s, rfl, rfl, rfl, rfl, Lib.hid HA.out.1.symm⟩
        case round =>
          obtain ⟨pre, post, hsp, hg, rfl, hwx, HR⟩ := hrel
          subst hg
          obtain rfl := hwx.symm
          clear hwx
          have hll : s.length = pre.length + post.length := by rw [hsp]; simp
          cases post with
          | nil =>
            have hlt : ¬ (pre.length : Int) < (s.length : Int) := by simp at hll; omega
            have hr : r1 = true := HR.out
            have hr2 : r2 = true := by rw [← HA.out.2, hr]
            subst hr hr2
            clear hsp hll HR HA
            go_wp2_with fail
            go_ret3
            exact ⟨rfl, Keeps.refl _ _⟩
          | cons x post =>
            have hlt : (pre.length : Int) < (s.length : Int) := by simp at hll; omega
            have hget : ∀ h, (bs s)[pre.length]'h = x := by rw [hsp]; exact fun h => bs_mid pre post x h
            have hlt3 : pre.length < (bs s).size := by rw [bs_size]; simp at hll; omega
            have hg2 := hget hlt3
            have hpb : pre.length ≤ 1000000 := by simp at hll; omega
            have CS := Lib.hid (rseen2_any w x)
            have HSP := Lib.hid hsp
            cases hx : seenB x with
            | false =>
              rw [hx] at CS
              have hr : r1 = false := by rw [HR.out, List.all_cons, hx]; rfl
              have hr2 : r2 = false := by rw [← HA.out.2, hr]
              subst hr hr2
              clear hsp hll HR HA hget hx
              go_wp2_with (first | (go_at_call 135; refine CS.out.mono ?_; rintro e w1 ⟨rfl, hw1⟩; obtain rfl := hw1.symm; clear hw1))
              go_ret3
              exact ⟨rfl, Keeps.refl _ _⟩
            | true =>
              rw [hx] at CS
              have HR2 := Lib.hid (show r1 = post.all seenB by rw [HR.out, List.all_cons, hx]; rfl)
              clear hsp hll HR hget hx
              go_wp2_with (first | (go_at_call 135; refine CS.out.mono ?_; rintro e w1 ⟨rfl, hw1⟩; obtain rfl := hw1.symm; clear hw1))
              go_roundg post.length
              case measure => simp
              case rel => exact ⟨pre ++ [x], post, by rw [HSP.out]; simp, rfl, by simp, rfl, HR2⟩
      · rw [if_neg h47] at hres
        have q47' : ((c.toNat : Int) == 47) = false := by rw [q47]; simp [h47]
        have HP1 := Lib.hid (fun w1 => rprefix_any w1 (c :: t) http7 hs (by decide))
        have HP2 := Lib.hid (fun w1 => rprefix_any w1 http7 (c :: t) (by decide) hs)
        have hk : bs http7 = ⟨#[104, 116, 116, 112, 58, 47, 47]⟩ := rfl
        rw [hk] at HP1 HP2
        cases hp1 : prefR (c :: t) http7 with
        | true =>
          rw [hp1] at HP1 hres
          have hr : (true, false, []) = (r1, r2, r3) := hres
          injection hr with h1 h2
          injection h2 with h2 h3
          subst h1 h2 h3
          clear q42 q47 h42 h47 hss hres hp1 hk HP2
          go_enter Tryz.func97, Tryz.ntmps97
          go_wp2_with fail
          refine (HP1.out w).mono ?_
          rintro e w1 ⟨rfl, h1⟩
          obtain rfl := h1.symm
          clear h1 HP1
          go_wp2_with fail
          go_ret3
          exact ⟨rfl, Keeps.refl _ _⟩
        | false =>
          rw [hp1] at HP1 hres
          cases hp2 : prefR http7 (c :: t) with
          | false =>
            rw [hp2] at HP2 hres
            have hr : (false, false, []) = (r1, r2, r3) := hres
            injection hr with h1 h2
            injection h2 with h2 h3
            subst h1 h2 h3
            clear q42 q47 h42 h47 hss hres hp1 hp2 hk
            go_enter Tryz.func97, Tryz.ntmps97
            go_wp2_with fail
            refine (HP1.out w).mono ?_
            rintro e w1 ⟨rfl, h1⟩
            obtain rfl := h1.symm
            clear h1 HP1
            go_wp2_with fail
            refine (HP2.out w).mono ?_
            rintro e w1 ⟨rfl, h1⟩
            obtain rfl := h1.symm
            clear h1 HP2
            go_wp2_with fail
            go_ret3
            exact ⟨rfl, Keeps.refl _ _⟩
          | true =>
            rw [hp2] at HP2 hres
            have hrr : restR ((c :: t).drop 7) = (r1, r2, r3) := hres
            have h7 : 7 ≤ (c :: t).length := by
              unfold prefR at hp2
              rw [Bool.and_eq_true] at hp2
              exact of_decide_eq_true hp2.1
            obtain ⟨r, hr⟩ : ∃ r, (c :: t).drop 7 = r := ⟨_, rfl⟩
            rw [hr] at hrr
            have hrl : r.length = (c :: t).length - 7 := by rw [← hr, List.length_drop]
            have he : (bs (c :: t)).extract 7 (c :: t).length = bs r := by
              rw [bs_ext, ← hr, List.take_of_length_le (by rw [List.length_drop]; omega)]
            rw [hss] at hie2 hlt0 hl0 hsz hs HP1 HP2 h7 hrl he ⊢
            have hg0' : ∀ h, (bs s)[0]'h = c := by rw [← hss]; exact fun h => bs_mid [] t c h
            have hg0 := hg0' hlt0
            have h7I : (7 : Int) ≤ (s.length : Int) := by omega
            have hrz : (bs r).size = r.length := rfl
            have hrb : r.length ≤ 1000000 := by omega
            have HRB := Lib.hid hrb
            have hw0 : IntKind.i64.wrap ((r.length : Int) - 1) = (r.length : Int) - 1 := by rw [wrap_in] <;> omega
            have HRR := Lib.hid hrr
            clear q42 q47 h42 h47 hss hres hp1 hp2 hk hg0' hr hrr h7 hrl hrb
            go_enter Tryz.func97, Tryz.ntmps97
            go_wp2_with fail
            refine (HP1.out w).mono ?_
            rintro e w1 ⟨rfl, h1⟩
            obtain rfl := h1.symm
            clear h1 HP1
            go_wp2_with fail
            refine (HP2.out w).mono ?_
            rintro e w1 ⟨rfl, h1⟩
            obtain rfl := h1.symm
            clear h1 HP2
            go_wp2_with fail
            clear hw0 he h7I hl0 hie2
            go_loopg [7, 8] (r.length + 1) (fun g kv iv wx => ∃ (pre post : List UInt8), r = pre ++ post ∧ g = pre.length + 1 ∧ iv = .int .i64 ((pre.length : Int) - 1) ∧ kv = .int .i64 ((pre.length + headT post : Nat) : Int) ∧ wx = w)
            case atStart => exact ⟨r, [], by simp, rfl, rfl, rfl, rfl⟩
            case round =>
              obtain ⟨pre, post, hsp, hg, rfl, rfl, hwx⟩ := hrel
              subst hg
              obtain rfl := hwx.symm
              clear hwx
              have hll : r.length = pre.length + post.length := by rw [hsp]; simp
              rcases List.eq_nil_or_concat pre with hp | ⟨p0, y, hp⟩
              · subst hp
                have hi : ¬ (0 : Int) ≤ ((([] : List UInt8).length : Nat) : Int) - 1 := by simp
                have hpo : post = r := by rw [hsp]; simp
                obtain ⟨K, hK⟩ : ∃ K, headT r = K := ⟨_, rfl⟩
                have hKl : K ≤ r.length := by rw [← hK]; exact headT_le r
                have hK0 : ([] : List UInt8).length + headT post = K := by rw [hpo, hK]; simp
                rw [hK0]
                have HK := Lib.hid hK
                have HKL := Lib.hid hKl
                clear hsp hll hK0 hK hpo
                go_wp2_with fail
                go_loopg [9] ((r.drop K).length + 1) (fun g iv wx => ∃ (pre post : List UInt8), r = pre ++ post ∧ g = post.length + 1 ∧ iv = .int .i64 pre.length ∧ wx = w ∧ Hid ((r.drop K).all seenB = post.all seenB))
                case atStart => exact ⟨r.take K, r.drop K, by simp, rfl, by rw [List.length_take, Nat.min_eq_left HKL.out], rfl, Lib.hid rfl⟩
                case round =>
                  obtain ⟨pre, post, hsp, hg, rfl, hwx, HA⟩ := hrel
                  subst hg
                  obtain rfl := hwx.symm
                  clear hwx
                  have hll : r.length = pre.length + post.length := by rw [hsp]; simp
                  cases post with
                  | nil =>
                    have hlt : ¬ (pre.length : Int) < (r.length : Int) := by simp at hll; omega
                    have hall : (r.drop K).all seenB = true := HA.out
                    have hr : ((authV (r.take K)).2 || (decide (K = r.length) && beginAR r), (authV (r.take K)).2, (authV (r.take K)).1) = (r1, r2, r3) := by
                      rw [← HRR.out]
                      unfold restR
                      rw [HK.out, if_neg (by rw [hall]; simp)]
                    injection hr with h1 h2
                    injection h2 with h2 h3
                    have HAU := Lib.hid (rauthority_any w (r.take K) (by have := HRB.out; rw [List.length_take]; omega))
                    rw [h2, h3] at HAU
                    rw [h2] at h1
                    have HBE := Lib.hid (fun w1 => rbeginA_any w1 r HRB.out)
                    have he : (bs r).extract 0 K = bs (r.take K) := by rw [bs_ext, List.drop_zero, Nat.sub_zero]
                    have hKI : (K : Int) ≤ (r.length : Int) := by have := HKL.out; omega
                    have hK0 : (0 : Int) ≤ (K : Int) := by omega
                    clear hsp hll HA hall h2 h3 HRR hlt0 hg0 hs hsz
                    cases r2 with
                    | true =>
                      have h1 : true = r1 := h1
                      subst h1
                      go_wp2_with fail
                      refine HAU.out.mono ?_
                      rintro e w1 ⟨rfl, k1⟩
                      have K1 := Lib.hid k1
                      clear k1 HAU HBE
                      go_wp2_with fail
                      go_ret3
                      exact ⟨rfl, K1.out⟩
                    | false =>
                      by_cases hKr : K = r.length
                      · have hKq : ((K : Int) == (r.length : Int)) = true := by rw [beq_iff_eq]; omega
                        have h1 : beginAR r = r1 := by rw [decide_eq_true hKr] at h1; exact h1
                        rw [h1] at HBE
                        clear h1 hKr
                        go_wp2_with fail
                        refine HAU.out.mono ?_
                        rintro e w1 ⟨rfl, k1⟩
                        have K1 := Lib.hid k1
                        have HB := Lib.hid (HBE.out w1)
                        clear k1 HAU HBE
                        go_wp2_with fail
                        refine HB.out.mono ?_
                        rintro e w2 ⟨rfl, k2⟩
                        have K2 := Lib.hid (K1.out.trans k2)
                        clear k2 HB
                        go_wp2_with fail
                        go_ret3
                        exact ⟨rfl, K2.out⟩
                      · have hKq : ((K : Int) == (r.length : Int)) = false := by rw [beq_eq_false_iff_ne]; omega
                        have h1 : false = r1 := by rw [decide_eq_false hKr] at h1; exact h1
                        subst h1
                        clear hKr
                        go_wp2_with fail
                        refine HAU.out.mono ?_
                        rintro e w1 ⟨rfl, k1⟩
                        have K1 := Lib.hid k1
                        clear k1 HAU HBE
                        go_wp2_with fail
                        go_ret3
                        exact ⟨rfl, K1.out⟩
                  | cons x post =>
                    have hlt : (pre.length : Int) < (r.length : Int) := by simp at hll; omega
                    have hget : ∀ h, (bs r)[pre.length]'h = x := by rw [hsp]; exact fun h => bs_mid pre post x h
                    have hlt3 : pre.length < (bs r).size := by rw [bs_size]; simp at hll; omega
                    have hg2 := hget hlt3
                    have hpb : pre.length ≤ 1000000 := by have := HRB.out; simp at hll; omega
                    have CS := Lib.hid (rseen2_any w x)
                    have HSP := Lib.hid hsp
                    cases hx : seenB x with
                    | false =>
                      rw [hx] at CS
                      have hr : (false, false, []) = (r1, r2, r3) := by
                        rw [← HRR.out]
                        unfold restR
                        rw [HK.out, if_pos (by rw [HA.out, List.all_cons, hx]; rfl)]
                      injection hr with h1 h2
                      injection h2 with h2 h3
                      subst h1 h2 h3
                      clear hsp hll HA hget hx
                      go_wp2_with (first | (go_at_call 135; refine CS.out.mono ?_; rintro e w1 ⟨rfl, hw1⟩; obtain rfl := hw1.symm; clear hw1))
                      go_ret3
                      exact ⟨rfl, Keeps.refl _ _⟩
                    | true =>
                      rw [hx] at CS
                      have HA2 := Lib.hid (show (r.drop K).all seenB = post.all seenB by rw [HA.out, List.all_cons, hx]; rfl)
                      clear hsp hll HA hget hx
                      go_wp2_with (first | (go_at_call 135; refine CS.out.mono ?_; rintro e w1 ⟨rfl, hw1⟩; obtain rfl := hw1.symm; clear hw1))
                      go_roundg (post.length + 1)
                      case measure => simp
                      case rel => exact ⟨pre ++ [x], post, by rw [HSP.out]; simp, rfl, by simp, rfl, HA2⟩
              · have hp' : pre = p0 ++ [y] := by simpa using hp
                subst hp'
                obtain ⟨P0, hP0⟩ : ∃ P, p0.length = P := ⟨_, rfl⟩
                have hpl : (p0 ++ [y]).length = P0 + 1 := by simp [hP0]
                rw [hpl]
                have hi : (0 : Int) ≤ ((P0 + 1 : Nat) : Int) - 1 := by omega
                have hi2 : ((P0 + 1 : Nat) : Int) - 1 = (P0 : Int) := by omega
                rw [hi2]
                have hgy : ∀ h, (bs r)[P0]'h = y := by rw [show r = p0 ++ y :: post by rw [hsp]; simp, ← hP0]; exact fun h => bs_mid p0 post y h
                have hlt4 : P0 < (bs r).size := by rw [bs_size, hll, hpl]; omega
                have hgy2 := hgy hlt4
                have g1 : (0 : Int) ≤ (P0 : Int) := by omega
                have g2 : (P0 : Int) < (r.length : Int) := by rw [hll, hpl]; omega
                have n1 := u8_eqc (x := y) (c := 47)
                have n2 := u8_eqc (x := y) (c := 63)
                rw [show ((47 : UInt8).toNat : Int) = 47 from rfl] at n1
                rw [show ((63 : UInt8).toNat : Int) = 63 from rfl] at n2
                have hPb : P0 ≤ 1000000 := by have := HRB.out; rw [hll, hpl] at this; omega
                have f1 : IntKind.i64.wrap ((P0 : Int) - 1) = (P0 : Int) - 1 := by rw [wrap_in] <;> omega
                have HSP := Lib.hid (show r = p0 ++ (y :: post) by rw [hsp]; simp)
                have HP0 := Lib.hid hP0
                have HPL := Lib.hid hpl
                cases hy : stopT y with
                | true =>
                  have HH := Lib.hid (show P0 + headT (y :: post) = P0 by rw [headT_yes post hy]; rfl)
                  by_cases h47y : y = 47
                  · have n3 : ((y.toNat : Int) == 47) = true := by rw [n1]; simp [h47y]
                    clear hsp hll hpl hgy n1 n2 hy h47y hP0 hPb
                    go_wp2_with fail
                    go_roundg (P0 + 1)
                    case measure => have := HPL.out; omega
                    case rel => exact ⟨p0, y :: post, HSP.out, by rw [HP0.out], by rw [HP0.out], by rw [HP0.out, HH.out], rfl⟩
                  · have h63y : y = 63 := by unfold stopT at hy; simpa [h47y] using hy
                    have n3 : ((y.toNat : Int) == 47) = false := by rw [n1]; simp [h47y]
                    have n4 : ((y.toNat : Int) == 63) = true := by rw [n2]; simp [h63y]
                    clear hsp hll hpl hgy n1 n2 hy h47y h63y hP0 hPb
                    go_wp2_with fail
                    go_roundg (P0 + 1)
                    case measure => have := HPL.out; omega
                    case rel => exact ⟨p0, y :: post, HSP.out, by rw [HP0.out], by rw [HP0.out], by rw [HP0.out, HH.out], rfl⟩
                | false =>
                  have HH := Lib.hid (show P0 + headT (y :: post) = P0 + 1 + headT post by rw [headT_no post hy]; omega)
                  have n3 : ((y.toNat : Int) == 47) = false := by rw [n1]; unfold stopT at hy; simp at hy; simp [hy.1]
                  have n4 : ((y.toNat : Int) == 63) = false := by rw [n2]; unfold stopT at hy; simp at hy; simp [hy.2]
                  clear hsp hll hpl hgy n1 n2 hy hP0 hPb
                  go_wp2_with fail
                  go_roundg (P0 + 1)
                  case measure => have := HPL.out; omega
                  case rel => exact ⟨p0, y :: post, HSP.out, by rw [HP0.out], by rw [HP0.out], by rw [HP0.out, HH.out], rfl⟩
end Go.Proofs.YtpoheemjdieogaaGreatDoor

