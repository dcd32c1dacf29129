/-
  The walks of the laws' helpers over package pool: 'fit', 'awake'. No condition.
-/
import Derived.Test.YtihjdlmmjdjggaaPoolV
namespace Go.Proofs.Ytihjdlmmjdjggaa
open Go.RowKit

def fitHigh (low high : Int) : Int := if low < high ∧ 39 < high - low then low + 39 else high

theorem fitHigh_bd {low high : Int} (h0 : 0 ≤ low) (h1 : low ≤ 65535) (h2 : 0 ≤ high) (h3 : high ≤ 65535) : 0 ≤ fitHigh low high ∧ fitHigh low high ≤ 65535 ∧ fitHigh low high ≤ high ∧ fitHigh low high - low ≤ 39 ∧ (low ≤ high → low ≤ fitHigh low high) ∧ (high < low → fitHigh low high = high) := by
  unfold fitHigh
  split <;> omega

set_option maxHeartbeats 400000 in
theorem fit_any (w : World) (low high rest : Int) (h0 : 0 ≤ low) (h1 : low ≤ 65535) (h2 : 0 ≤ high) (h3 : high ≤ 65535) :
    Calls Try.prog 7 #[.agg #[.int .u16 low, .int .u16 high, .int .u64 rest]] w fun e w' => e = .returned (.agg #[.int .u16 low, .int .u16 (fitHigh low high), .int .u64 rest]) ∧ Keeps [] w w' := by
  by_cases ha : low < high
  · by_cases hb : 39 < high - low
    · have fin : fitHigh low high = low + 39 := by unfold fitHigh; rw [if_pos ⟨ha, hb⟩]
      have F := Lib.hid fin
      clear fin
      go_enter Try.func7, Try.ntmps7
      go_wp2
      refine bodyPost_ret (v := .agg #[.int .u16 low, .int .u16 (low + 39), .int .u64 rest]) (by simp [results, Try.results7, go_sem]) rfl ⟨by rw [F.out], ?_⟩
      repeat (first | exact Keeps.refl _ _ | apply Keeps.alloc' | apply Keeps.drew' | (refine Keeps.setCell' ?_ (by simp) _))
    · have fin : fitHigh low high = high := by unfold fitHigh; rw [if_neg (fun h => hb h.2)]
      have F := Lib.hid fin
      clear fin
      go_enter Try.func7, Try.ntmps7
      go_wp2
      refine bodyPost_ret (v := .agg #[.int .u16 low, .int .u16 high, .int .u64 rest]) (by simp [results, Try.results7, go_sem]) rfl ⟨by rw [F.out], ?_⟩
      repeat (first | exact Keeps.refl _ _ | apply Keeps.alloc' | apply Keeps.drew' | (refine Keeps.setCell' ?_ (by simp) _))
  · have fin : fitHigh low high = high := by unfold fitHigh; rw [if_neg (fun h => ha h.1)]
    have F := Lib.hid fin
    clear fin
    go_enter Try.func7, Try.ntmps7
    go_wp2
    refine bodyPost_ret (v := .agg #[.int .u16 low, .int .u16 high, .int .u64 rest]) (by simp [results, Try.results7, go_sem]) rfl ⟨by rw [F.out], ?_⟩
    repeat (first | exact Keeps.refl _ _ | apply Keeps.alloc' | apply Keeps.drew' | (refine Keeps.setCell' ?_ (by simp) _))

def aw0 : PS := PS.new 5 6 10
theorem aw_new : newBad 5 6 10 = false := by decide
theorem aw_ok0 : (PS.new 5 6 10).ok := by unfold PS.ok; decide
def aw1 : PS := ⟨5, 6, 10, [(5, ())], [], 1⟩
def aw2 : PS := ⟨5, 6, 10, [(5, ()), (6, ())], [], 1⟩
def aw3 : PS := ⟨5, 6, 10, [(6, ())], [(5, 13)], 3⟩
def aw4 : PS := ⟨5, 6, 10, [(6, ())], [(5, 13)], 12⟩
def aw5 : PS := ⟨5, 6, 10, [(6, ()), (5, ())], [], 13⟩
theorem aw_1 : (PS.new 5 6 10).take 1 = (5, 0, aw1) := by rfl
theorem aw_2 : aw1.take 1 = (6, 0, aw2) := by rfl
theorem aw_3 : aw2.take 1 = (0, 7, aw2) := by rfl
theorem aw_4 : aw2.give 5 3 = (0, aw3) := by rfl
theorem aw_5 : aw3.take 12 = (0, 7, aw4) := by rfl
theorem aw_6 : aw4.take 13 = (5, 0, aw5) := by rfl

set_option maxHeartbeats 1000000 in
theorem awake_any (w : World) : Calls Try.prog 9 #[] w fun e w' => e = .returned (.bool true) ∧ Keeps [] w w' := by
  go_enter Try.func9, Try.ntmps9
  go_wp2_with fail
  refine (new_ok w 5 6 10 aw_new).mono ?_
  rintro e w1 ⟨b, mt, mu, rfl, p1, k1, hb, hmt, hmu⟩
  go_wp2_with fail
  have c := take_any p1 aw_ok0 1
  rw [aw_1] at c
  refine c.mono ?_
  clear c
  rintro e w2 ⟨rfl, p2, k2⟩
  go_wp2_with fail
  have c := take_any p2 (by unfold PS.ok; decide) 1
  rw [aw_2] at c
  refine c.mono ?_
  clear c
  rintro e w3 ⟨rfl, p3, k3⟩
  go_wp2_with fail
  have c := take_any p3 (by unfold PS.ok; decide) 1
  rw [aw_3] at c
  refine c.mono ?_
  clear c
  rintro e w4 ⟨rfl, p4, k4⟩
  go_wp2_with fail
  have c := give_any p4 (by unfold PS.ok; decide) 5 3
  rw [aw_4] at c
  refine c.mono ?_
  clear c
  rintro e w5 ⟨rfl, p5, k5⟩
  go_wp2_with fail
  have c := take_any p5 (by unfold PS.ok; decide) 12
  rw [aw_5] at c
  refine c.mono ?_
  clear c
  rintro e w6 ⟨rfl, p6, k6⟩
  go_wp2_with fail
  have c := take_any p6 (by unfold PS.ok; decide) 13
  rw [aw_6] at c
  refine c.mono ?_
  clear c
  rintro e w7 ⟨rfl, p7, k7⟩
  go_wp2_with fail
  go_ret
  exact ⟨rfl, (k1.mono (by simp)).trans (((((k2.trans k3).trans k4).trans k5).trans k6).trans k7) |>.fresh (by intro x hx hlt; simp at hx; omega)⟩
end Go.Proofs.Ytihjdlmmjdjggaa
