/-
  The walks of package seq: numbers modulo 2^32. Condition: numbers are in the ranges of their kinds.
-/
import Derived.Test.YtakgohocimlagaaGreatKitC
namespace Go.Proofs.YtakgohocimlagaaGreat
open Go.RowKit
set_option linter.unusedVariables false
set_option linter.unusedSimpArgs false

def U32 (x : Int) : Prop := 0 ≤ x ∧ x ≤ 4294967295
/-- How far b is ahead of a. -/
def aheadI (a b : Int) : Int := if (b - a) % 4294967296 < 2147483648 then (b - a) % 4294967296 else (b - a) % 4294967296 - 4294967296
def addI (a n : Int) : Int := (a + n) % 4294967296
def lessI (a b : Int) : Bool := decide (0 < aheadI a b)
def withinI (x f l : Int) : Bool := decide ((x - f) % 4294967296 < l)
theorem aheadI_bd (a b : Int) : -2147483648 ≤ aheadI a b ∧ aheadI a b ≤ 2147483647 := by unfold aheadI; split <;> omega
theorem addI_bd (a n : Int) : 0 ≤ addI a n ∧ addI a n ≤ 4294967295 := by unfold addI; omega

theorem ret_i {k : IntKind} {a b : Int} (h : a = b) : Ending.returned (.int k a) = Ending.returned (.int k b) := by rw [h]
theorem ret_b {a b : Bool} (h : a = b) : Ending.returned (.bool a) = Ending.returned (.bool b) := by rw [h]

set_option maxHeartbeats 400000 in
theorem add_any (w : World) (a n : Int) (ha : U32 a) : Calls Tryz.prog 60 #[.int .u32 a, .int .i64 n] w fun e w' => e = .returned (.int .u32 (addI a n)) ∧ w = w' := by
  obtain ⟨a0, a1⟩ := ha
  have F := Lib.hid (show (a + n % 4294967296) % 4294967296 = addI a n by unfold addI; omega)
  go_enter Tryz.func60, Tryz.ntmps60
  go_wp2
  go_ret
  exact ⟨ret_i F.out, rfl⟩

set_option maxHeartbeats 400000 in
theorem ahead_any (w : World) (a b : Int) (ha : U32 a) (hb : U32 b) : Calls Tryz.prog 91 #[.int .u32 a, .int .u32 b] w fun e w' => e = .returned (.int .i32 (aheadI a b)) ∧ w = w' := by
  obtain ⟨a0, a1⟩ := ha
  obtain ⟨b0, b1⟩ := hb
  have F := Lib.hid (show wrap32 ((b - a) % 4294967296) = aheadI a b by unfold aheadI wrap32; split <;> omega)
  go_enter Tryz.func91, Tryz.ntmps91
  go_wp2
  go_ret
  exact ⟨ret_i F.out, rfl⟩

set_option maxHeartbeats 400000 in
theorem less_any (w : World) (a b : Int) (ha : U32 a) (hb : U32 b) : Calls Tryz.prog 74 #[.int .u32 a, .int .u32 b] w fun e w' => e = .returned (.bool (lessI a b)) ∧ w = w' := by
  go_enter Tryz.func74, Tryz.ntmps74
  go_wp2_with fail
  refine (ahead_any _ a b ha hb).mono ?_
  rintro e w1 ⟨rfl, rfl⟩
  go_wp2
  go_ret
  exact ⟨rfl, rfl⟩

set_option maxHeartbeats 400000 in
theorem within_any (w : World) (x f l : Int) (hx : U32 x) (hf : U32 f) : Calls Tryz.prog 64 #[.int .u32 x, .int .u32 f, .int .u32 l] w fun e w' => e = .returned (.bool (withinI x f l)) ∧ w = w' := by
  obtain ⟨a0, a1⟩ := hx
  obtain ⟨b0, b1⟩ := hf
  go_enter Tryz.func64, Tryz.ntmps64
  go_wp2
  go_ret
  exact ⟨rfl, rfl⟩

set_option maxHeartbeats 400000 in
theorem in_any (w : World) (b1 b2 : Nat) (x f l : Int) (hx : U32 x) (hf : U32 f) (q1 : w.cell? ⟨b1, 0, none⟩ = some (.int .u32 f)) (q2 : w.cell? ⟨b2, 0, none⟩ = some (.int .u32 l)) :
    Calls Tryz.prog 89 #[.int .u32 x, .pointer (some ⟨b1, 0, none⟩), .pointer (some ⟨b2, 0, none⟩)] w fun e w' => e = .returned (.bool (withinI x f l)) ∧ w = w' := by
  go_enter Tryz.func89, Tryz.ntmps89
  go_wp2_with fail
  refine (within_any _ x f l hx hf).mono ?_
  rintro e w1 ⟨rfl, rfl⟩
  go_wp2
  go_ret
  exact ⟨rfl, rfl⟩

def acceptI (at' n next window : Int) : Bool := if n ≤ 0 then decide (at' = next) || withinI at' next window else withinI at' next window || withinI (addI at' (n - 1)) next window

set_option maxHeartbeats 1000000 in
theorem accept_any (w : World) (s n next window : Int) (hs : U32 s) (hx : U32 next) (n0 : 0 ≤ n) (n1 : n ≤ 4294967295) :
    Calls Tryz.prog 65 #[.int .u32 s, .int .i64 n, .int .u32 next, .int .u32 window] w fun e w' => e = .returned (.bool (acceptI s n next window)) ∧ Keeps [] w w' := by
  by_cases hn : n ≤ 0
  · by_cases he : s = next
    · have F := Lib.hid (show acceptI s n next window = true by unfold acceptI; rw [if_pos hn, decide_eq_true he]; rfl)
      have hb : (s == next) = true := by simpa using he
      clear he
      go_enter Tryz.func65, Tryz.ntmps65
      go_wp2
      go_ret
      exact ⟨ret_b F.out.symm, ((Keeps.refl _ _).alloc' _).alloc' _⟩
    · have F := Lib.hid (show acceptI s n next window = withinI s next window by unfold acceptI; rw [if_pos hn, decide_eq_false he]; rfl)
      have hb : (s == next) = false := by simpa using he
      clear he
      go_enter Tryz.func65, Tryz.ntmps65
      go_wp2_with fail
      refine (in_any _ w.heap.size (w.heap.size + 1) s next window hs hx (by simp) (by simp)).mono ?_
      rintro e w1 ⟨rfl, rfl⟩
      go_wp2
      go_ret
      exact ⟨ret_b F.out.symm, ((Keeps.refl _ _).alloc' _).alloc' _⟩
  · have hm : 0 < n := by omega
    cases hw : withinI s next window
    · have F := Lib.hid (show acceptI s n next window = withinI (addI s (n - 1)) next window by unfold acceptI; rw [if_neg hn, hw]; rfl)
      have hb := addI_bd s (n - 1)
      have ci := fun W g1 g2 => in_any W g1 g2 s next window hs hx
      rw [hw] at ci
      have CI := Lib.hid ci
      clear ci hw hn
      go_enter Tryz.func65, Tryz.ntmps65
      go_wp2_with fail
      refine (CI.out _ w.heap.size (w.heap.size + 1) (by simp) (by simp)).mono ?_
      rintro e w1 ⟨rfl, rfl⟩
      go_wp2_with fail
      refine (add_any _ s (n - 1) hs).mono ?_
      rintro e w1 ⟨rfl, rfl⟩
      go_wp2_with fail
      refine (in_any _ w.heap.size (w.heap.size + 1) (addI s (n - 1)) next window hb hx (by simp) (by simp)).mono ?_
      rintro e w1 ⟨rfl, rfl⟩
      go_wp2
      go_ret
      exact ⟨ret_b F.out.symm, ((Keeps.refl _ _).alloc' _).alloc' _⟩
    · have F := Lib.hid (show acceptI s n next window = true by unfold acceptI; rw [if_neg hn, hw]; rfl)
      have ci := fun W g1 g2 => in_any W g1 g2 s next window hs hx
      rw [hw] at ci
      have CI := Lib.hid ci
      clear ci hw hn
      go_enter Tryz.func65, Tryz.ntmps65
      go_wp2_with fail
      refine (CI.out _ w.heap.size (w.heap.size + 1) (by simp) (by simp)).mono ?_
      rintro e w1 ⟨rfl, rfl⟩
      go_wp2
      go_ret
      exact ⟨ret_b F.out.symm, ((Keeps.refl _ _).alloc' _).alloc' _⟩
end Go.Proofs.YtakgohocimlagaaGreat
