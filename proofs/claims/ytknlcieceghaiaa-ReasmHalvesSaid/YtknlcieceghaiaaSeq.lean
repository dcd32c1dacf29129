/-
  The walks of package seq: numbers modulo 2^32. Condition: numbers are in the ranges of their kinds.
-/
import Derived.Test.YtknlcieceghaiaaKitB
namespace Go.Proofs.Ytknlcieceghaiaa
open Go.RowKit
set_option linter.unusedVariables false
set_option linter.unusedSimpArgs false

def U32 (x : Int) : Prop := 0 ≤ x ∧ x ≤ 4294967295
/-- How far b is ahead of a. -/
def aheadI (a b : Int) : Int := if (b - a) % 4294967296 < 2147483648 then (b - a) % 4294967296 else (b - a) % 4294967296 - 4294967296
def addI (a n : Int) : Int := (a + n) % 4294967296
def lessI (a b : Int) : Bool := decide (0 < aheadI a b)
def withinI (x f l : Int) : Bool := decide ((x - f) % 4294967296 < l)
theorem aheadI_bd (a b : Int) : -2147483648 ≤ aheadI a b ∧ aheadI a b ≤ 2147483647 := by unfold aheadI; split <;> omega
theorem addI_bd (a n : Int) : 0 ≤ addI a n ∧ addI a n ≤ 4294967295 := by unfold addI; omega

theorem ret_i {k : IntKind} {a b : Int} (h : a = b) : Ending.returned (.int k a) = Ending.returned (.int k b) := by rw [h]
theorem ret_b {a b : Bool} (h : a = b) : Ending.returned (.bool a) = Ending.returned (.bool b) := by rw [h]

set_option maxHeartbeats 400000 in
theorem add_any (w : World) (a n : Int) (ha : U32 a) : Calls Try.prog 31 #[.int .u32 a, .int .i64 n] w fun e w' => e = .returned (.int .u32 (addI a n)) ∧ w = w' := by
  obtain ⟨a0, a1⟩ := ha
  have F := Lib.hid (show (a + n % 4294967296) % 4294967296 = addI a n by unfold addI; omega)
  go_enter Try.func31, Try.ntmps31
  go_wp2
  go_ret
  exact ⟨ret_i F.out, rfl⟩

set_option maxHeartbeats 400000 in
theorem ahead_any (w : World) (a b : Int) (ha : U32 a) (hb : U32 b) : Calls Try.prog 25 #[.int .u32 a, .int .u32 b] w fun e w' => e = .returned (.int .i32 (aheadI a b)) ∧ w = w' := by
  obtain ⟨a0, a1⟩ := ha
  obtain ⟨b0, b1⟩ := hb
  have F := Lib.hid (show wrap32 ((b - a) % 4294967296) = aheadI a b by unfold aheadI wrap32; split <;> omega)
  go_enter Try.func25, Try.ntmps25
  go_wp2
  go_ret
  exact ⟨ret_i F.out, rfl⟩

end Go.Proofs.Ytknlcieceghaiaa
