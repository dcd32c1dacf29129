/-
  The walks of package cookie: sizes and classes, and the reference's. Condition: numbers are in the ranges of their kinds; the table of classes reads as laid.
-/
import Derived.Test.YtocnkiojlifgpaaGreatDoorCookieV
namespace Go.Proofs.YtocnkiojlifgpaaGreatDoor
open Go.RowKit

def szI (c : Int) : Int := if 0 ≤ c ∧ c ≤ 7 then tab.getD c.toNat 0 else 0
def szE (c : Int) : Int := if 0 ≤ c ∧ c ≤ 7 then 0 else 1
def clsI (m : Int) : Int := if 1460 ≤ m then 7 else if 1440 ≤ m then 6 else if 1360 ≤ m then 5 else if 1220 ≤ m then 4 else if 1024 ≤ m then 3 else if 536 ≤ m then 2 else if 216 ≤ m then 1 else 0
def clsB (m : Int) : Bool := decide (88 ≤ m)

theorem cls_of {m : Int} {c : Nat} (hc : c < 8) (h1 : tab.getD c 0 ≤ m) (h2 : ∀ k, c < k → k < 8 → m < tab.getD k 0) : clsI m = c ∧ clsB m = true := by
  have c0 := h2 0; have c1 := h2 1; have c2 := h2 2; have c3 := h2 3; have c4 := h2 4; have c5 := h2 5; have c6 := h2 6; have c7 := h2 7
  have h0 := tab_mono (i := 0) (k := c) (by omega) hc
  have key : ∀ c, c < 8 → tab.getD c 0 = if c = 0 then 88 else if c = 1 then 216 else if c = 2 then 536 else if c = 3 then 1024 else if c = 4 then 1220 else if c = 5 then 1360 else if c = 6 then 1440 else 1460 := by decide
  rw [key c hc] at h1 h0
  simp only [tab, List.getD_cons_zero, List.getD_cons_succ] at h0 c0 c1 c2 c3 c4 c5 c6 c7
  constructor
  · unfold clsI
    (repeat' split at h1) <;> (repeat' split) <;> omega
  · unfold clsB
    apply decide_eq_true
    omega
theorem cls_none {m : Int} (h : m < 88) : clsI m = 0 ∧ clsB m = false := by
  constructor
  · unfold clsI; (repeat' split) <;> omega
  · unfold clsB; apply decide_eq_false; omega
theorem below_cases (m : Int) : (below m = 0 ∧ m ≤ 88) ∨ (below m = 1 ∧ 88 < m ∧ m ≤ 216) ∨ (below m = 2 ∧ 216 < m ∧ m ≤ 536) ∨ (below m = 3 ∧ 536 < m ∧ m ≤ 1024) ∨ (below m = 4 ∧ 1024 < m ∧ m ≤ 1220) ∨ (below m = 5 ∧ 1220 < m ∧ m ≤ 1360) ∨ (below m = 6 ∧ 1360 < m ∧ m ≤ 1440) ∨ (below m = 7 ∧ 1440 < m ∧ m ≤ 1460) ∨ (below m = 8 ∧ 1460 < m) := by
  unfold below; (repeat' split) <;> omega
theorem cls_there {m : Int} (hm : m ≤ 65535) (h : there m = true) : (below m : Int) = clsI m ∧ clsB m = true := by
  unfold there at h
  have h := of_decide_eq_true h
  rcases below_cases m with ⟨e, q⟩ | ⟨e, q⟩ | ⟨e, q⟩ | ⟨e, q⟩ | ⟨e, q⟩ | ⟨e, q⟩ | ⟨e, q⟩ | ⟨e, q⟩ | ⟨e, q⟩
  case' inr.inr.inr.inr.inr.inr.inr.inr => exfalso; rw [e] at h; change (70000 : Int) = m at h; omega
  all_goals
    rw [e] at h ⊢
    simp only [tab, List.getD_cons_zero, List.getD_cons_succ] at h
    subst h
    exact ⟨rfl, rfl⟩
theorem cls_nothere {m : Int} (h : there m = false) : max ((below m : Int) - 1) 0 = clsI m ∧ decide (0 < (below m : Int)) = clsB m := by
  unfold there at h
  have h := of_decide_eq_false h
  rcases below_cases m with ⟨e, q⟩ | ⟨e, q⟩ | ⟨e, q⟩ | ⟨e, q⟩ | ⟨e, q⟩ | ⟨e, q⟩ | ⟨e, q⟩ | ⟨e, q⟩ | ⟨e, q⟩
  case' inr.inr.inr.inr.inr.inr.inr.inr => clear h
  case' inr.inr.inr.inr.inr.inr.inr.inr => have h : (1460 : Int) ≠ m := by omega
  all_goals
    rw [e]
    try rw [e] at h
    try simp only [tab, List.getD_cons_zero, List.getD_cons_succ] at h
    unfold clsI clsB
    constructor
    · (repeat' split) <;> omega
    · rw [decide_eq_decide]; omega

set_option maxHeartbeats 1000000 in
theorem size_any (w : World) (hL : Laid w) (c : Int) (c0 : -9223372036854775808 ≤ c) (c1 : c ≤ 9223372036854775807) :
    Calls Tryz.prog 54 #[.int .i64 c] w fun e w' => e = .returned (.tuple #[.int .u16 (szI c), .int .i64 (szE c)]) ∧ w = w' := by
  by_cases h : 0 ≤ c ∧ c ≤ 7
  · have h1 : szI c = tab.getD c.toNat 0 := by unfold szI; rw [if_pos h]
    have h2 : szE c = 0 := by unfold szE; rw [if_pos h]
    rw [h1, h2]
    obtain ⟨q0, q1⟩ := h
    have hc := hL c.toNat (by omega)
    generalize tab.getD c.toNat 0 = v at hc ⊢
    have HL := Lib.hid hL
    clear hL h1 h2
    have q2 : c < 8 := by omega
    go_enter Tryz.func54, Tryz.ntmps54
    go_wp2_with fail
    go_ret2
    exact ⟨rfl, rfl⟩
  · have h1 : szI c = 0 := by unfold szI; rw [if_neg h]
    have h2 : szE c = 1 := by unfold szE; rw [if_neg h]
    rw [h1, h2]
    have HL := Lib.hid hL
    clear hL h1 h2
    rcases Int.lt_or_le c 0 with q | q
    · clear h
      go_enter Tryz.func54, Tryz.ntmps54
      go_wp2_with fail
      go_ret2
      exact ⟨rfl, rfl⟩
    · have q2 : 8 ≤ c := by omega
      clear h
      go_enter Tryz.func54, Tryz.ntmps54
      go_wp2_with fail
      go_ret2
      exact ⟨rfl, rfl⟩

set_option maxHeartbeats 1000000 in
theorem class_any (w : World) (hL : Laid w) (m : Int) (m0 : 0 ≤ m) (m1 : m ≤ 65535) :
    Calls Tryz.prog 47 #[.int .u16 m] w fun e w' => e = .returned (.tuple #[.int .i64 (clsI m), .bool (clsB m)]) ∧ w = w' := by
  have HL := Lib.hid hL
  clear hL
  have HT := @cls_there m m1
  have HN := @cls_nothere m
  generalize clsI m = ci at *
  generalize clsB m = cb at *
  go_enter Tryz.func47, Tryz.ntmps47
  go_wp2_with fail
  refine (search_any _ HL.out _ m0 m1).mono ?_
  rintro e w1 ⟨rfl, rfl⟩
  have hb := below_le m
  generalize below m = b at *
  generalize there m = t at *
  cases t with
  | true =>
    obtain ⟨e1, e2⟩ := HT rfl
    have E1 := Lib.hid e1
    have E2 := Lib.hid e2
    clear HT HN e1 e2
    go_wp2_with fail
    go_ret2
    rw [← E1.out, E2.out]
    exact ⟨rfl, rfl⟩
  | false =>
    obtain ⟨e1, e2⟩ := HN rfl
    have E1 := Lib.hid e1
    have E2 := Lib.hid e2
    clear HT HN e1 e2
    rcases Nat.lt_or_ge 1 b with h | h
    · have h2 : (1 : Int) < b := by omega
      have em : max ((b : Int) - 1) 0 = b - 1 := by omega
      have EM := Lib.hid em
      clear em
      go_wp2_with fail
      go_ret2
      rw [← E1.out, ← E2.out, EM.out]
      exact ⟨by simp, rfl⟩
    · have hb : b = 0 ∨ b = 1 := by omega
      rcases hb with rfl | rfl
      · go_wp2_with fail
        go_ret2
        rw [← E1.out, ← E2.out]
        exact ⟨rfl, rfl⟩
      · go_wp2_with fail
        go_ret2
        rw [← E1.out, ← E2.out]
        exact ⟨rfl, rfl⟩

end Go.Proofs.YtocnkiojlifgpaaGreatDoor
