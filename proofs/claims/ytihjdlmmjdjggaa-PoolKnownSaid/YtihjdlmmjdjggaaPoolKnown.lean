/-
  The walk of the closed law PoolKnown: the document's examples, ends, no pool at all. No condition.
-/
import Derived.Test.YtihjdlmmjdjggaaPoolL
import Derived.Test.YtihjdlmmjdjggaaPoolP
namespace Go.Proofs.Ytihjdlmmjdjggaa
open Go.RowKit

set_option maxHeartbeats 400000 in
theorem nil_take (w : World) (a : Int) : Calls Try.prog 10 #[.pointer none, .int .u64 a] w fun e w' => e = .returned (.tuple #[.int .u16 0, .int .i64 2]) ∧ w = w' := by
  go_enter Try.func10, Try.ntmps10
  go_wp2_with fail
  refine (none_nil w).mono ?_
  rintro e w1 ⟨rfl, rfl⟩
  go_wp2_with fail
  go_ret2
  exact ⟨rfl, rfl⟩

set_option maxHeartbeats 400000 in
theorem nil_give (w : World) (a b : Int) : Calls Try.prog 11 #[.pointer none, .int .u16 a, .int .u64 b] w fun e w' => e = .returned (.int .i64 2) ∧ w = w' := by
  go_enter Try.func11, Try.ntmps11
  go_wp2_with fail
  refine (none_nil w).mono ?_
  rintro e w1 ⟨rfl, rfl⟩
  go_wp2_with fail
  go_ret
  exact ⟨rfl, rfl⟩

set_option maxHeartbeats 400000 in
theorem nil_count (w : World) : Calls Try.prog 12 #[.pointer none] w fun e w' => e = .returned (.int .i64 0) ∧ w = w' := by
  go_enter Try.func12, Try.ntmps12
  go_wp2_with fail
  refine (none_nil w).mono ?_
  rintro e w1 ⟨rfl, rfl⟩
  go_wp2_with fail
  go_ret
  exact ⟨rfl, rfl⟩

set_option maxHeartbeats 400000 in
theorem nil_free (w : World) (a : Int) : Calls Try.prog 13 #[.pointer none, .int .u64 a] w fun e w' => e = .returned (.int .i64 0) ∧ w = w' := by
  go_enter Try.func13, Try.ntmps13
  go_wp2_with fail
  refine (none_nil w).mono ?_
  rintro e w1 ⟨rfl, rfl⟩
  go_wp2_with fail
  go_ret
  exact ⟨rfl, rfl⟩

set_option maxHeartbeats 400000 in
theorem nil_taken (w : World) (a : Int) : Calls Try.prog 14 #[.pointer none, .int .u16 a] w fun e w' => e = .returned (.bool false) ∧ w = w' := by
  go_enter Try.func14, Try.ntmps14
  go_wp2_with fail
  refine (none_nil w).mono ?_
  rintro e w1 ⟨rfl, rfl⟩
  go_wp2_with fail
  go_ret
  exact ⟨rfl, rfl⟩

set_option maxHeartbeats 400000 in
theorem nil_copy (w : World) : Calls Try.prog 15 #[.pointer none] w fun e w' => e = .returned (.pointer none) ∧ w = w' := by
  go_enter Try.func15, Try.ntmps15
  go_wp2_with fail
  refine (none_nil w).mono ?_
  rintro e w1 ⟨rfl, rfl⟩
  go_wp2_with fail
  go_ret
  exact ⟨rfl, rfl⟩

set_option maxHeartbeats 400000 in
theorem none_zero (w : World) (b : Nat) (h3 : w.cell? ⟨b, 3, none⟩ = some (.map none)) : Calls Try.prog 16 #[.pointer (some ⟨b, 0, none⟩)] w fun e w' => e = .returned (.bool true) ∧ w = w' := by
  have hk := fun w => run_eql_map_nil (P := Try.prog) w _ _ _ Option.none Try.underlying47
  go_enter Try.func16, Try.ntmps16
  go_wp2
  go_ret
  exact ⟨rfl, rfl⟩
set_option maxHeartbeats 400000 in
theorem zero_give (w : World) (b : Nat) (p t : Int) (h3 : w.cell? ⟨b, 3, none⟩ = some (.map none)) : Calls Try.prog 11 #[.pointer (some ⟨b, 0, none⟩), .int .u16 p, .int .u64 t] w fun e w' => e = .returned (.int .i64 2) ∧ w = w' := by
  go_enter Try.func11, Try.ntmps11
  go_wp2_with fail
  refine (none_zero w b h3).mono ?_
  rintro e w1 ⟨rfl, rfl⟩
  go_wp2_with fail
  go_ret
  exact ⟨rfl, rfl⟩

def kn0 : PS := PS.new 65535 65535 5
def kn1 : PS := ⟨65535, 65535, 5, [(65535, ())], [], 10⟩
def kn2 : PS := ⟨65535, 65535, 5, [], [(65535, 15)], 10⟩
def kn3 : PS := ⟨65535, 65535, 5, [], [(65535, 15)], 14⟩
def kn4 : PS := ⟨65535, 65535, 5, [], [(65535, 15)], 15⟩
theorem kn_new : newBad 65535 65535 5 = false := by decide
theorem kn_b1 : newBad 0 5 1 = true := by decide
theorem kn_b2 : newBad 6 5 1 = true := by decide
theorem kn_b3 : newBad 5 5 1099511627777 = true := by decide
theorem kn_1 : (PS.new 65535 65535 5).take 10 = (65535, 0, kn1) := by rfl
theorem kn_2 : kn1.take 1099511627777 = (0, 1, kn1) := by rfl
theorem kn_3 : kn1.give 65535 3 = (0, kn2) := by rfl
theorem kn_4 : kn2.at 14 = kn3 := by rfl
theorem kn_4n : kn3.frees kn2.num kn2.low = 0 := by rfl
theorem kn_5 : kn3.at 15 = kn4 := by rfl
theorem kn_5n : kn4.frees kn3.num kn3.low = 1 := by rfl
theorem kn_6 : kn4.at 0 = kn4 := by rfl
theorem kn_6n : kn4.frees kn4.num kn4.low = 1 := by rfl

set_option maxRecDepth 100000 in
set_option maxHeartbeats 2000000 in
theorem known_walk (w : World) : Calls Try.prog 6 #[] w fun e w' => e = .returned (.bool true) ∧ Keeps [] w w' := by
  go_enter Try.func6, Try.ntmps6
  go_wp2_with fail
  refine (awake_any _).mono ?_
  rintro e w1 ⟨rfl, k1⟩
  go_wp2_with fail
  refine (new_bad _ 0 5 1 kn_b1).mono ?_
  rintro e w2 ⟨rfl, rfl⟩
  go_wp2_with fail
  refine (new_bad _ 6 5 1 kn_b2).mono ?_
  rintro e w2 ⟨rfl, rfl⟩
  go_wp2_with fail
  refine (new_bad _ 5 5 1099511627777 kn_b3).mono ?_
  rintro e w2 ⟨rfl, rfl⟩
  go_wp2_with fail
  refine (new_ok _ 65535 65535 5 kn_new).mono ?_
  rintro e w2 ⟨b, mt, mu, rfl, p2, k2, hb, hmt, hmu⟩
  go_wp2_with fail

  have c := take_any p2 (by unfold PS.ok; decide) 10
  rw [kn_1] at c
  refine c.mono ?_
  clear c
  rintro e w3 ⟨rfl, p3, k3⟩
  go_wp2_with fail
  have c := take_any p3 (by unfold PS.ok; decide) 1099511627777
  rw [kn_2] at c
  refine c.mono ?_
  clear c
  rintro e w4 ⟨rfl, p4, k4⟩
  go_wp2_with fail
  have c := give_any p4 (by unfold PS.ok; decide) 65535 3
  rw [kn_3] at c
  refine c.mono ?_
  clear c
  rintro e w5 ⟨rfl, p5, k5⟩
  go_wp2_with fail
  have c := frees_any p5 (by unfold PS.ok; decide) 14 (by decide)
  rw [kn_4, kn_4n] at c
  refine c.mono ?_
  clear c
  rintro e w6 ⟨rfl, p6, k6⟩
  go_wp2_with fail
  have c := frees_any p6 (by unfold PS.ok; decide) 15 (by decide)
  rw [kn_5, kn_5n] at c
  refine c.mono ?_
  clear c
  rintro e w7 ⟨rfl, p7, k7⟩
  go_wp2_with fail
  refine (nil_take _ 0).mono ?_
  rintro e w8 ⟨rfl, rfl⟩
  go_wp2_with fail
  have c := frees_any p7 (by unfold PS.ok; decide) 0 (by decide)
  rw [kn_6, kn_6n] at c
  refine c.mono ?_
  clear c
  rintro e w8 ⟨rfl, p8, k8⟩
  go_wp2_with fail
  refine (nil_give _ 1 0).mono ?_
  rintro e w9 ⟨rfl, rfl⟩
  go_wp2_with fail
  refine (nil_taken _ 1).mono ?_
  rintro e w9 ⟨rfl, rfl⟩
  go_wp2_with fail
  refine (nil_count _).mono ?_
  rintro e w9 ⟨rfl, rfl⟩
  go_wp2_with fail
  refine (nil_free _ 0).mono ?_
  rintro e w9 ⟨rfl, rfl⟩
  go_wp2_with fail
  refine (nil_copy _).mono ?_
  rintro e w9 ⟨rfl, rfl⟩
  go_wp2_with fail
  refine (zero_give _ _ 1 0 ?_).mono ?_
  · simp
  rintro e w9 ⟨rfl, rfl⟩
  go_wp2_with fail
  go_ret
  have ka : Keeps [b, mt, mu] w w8 := (k1.mono (by simp)).trans ((k2.mono (by simp)).trans ((((((k3).trans k4).trans k5).trans (k6.mono (T := [b, mt, mu]) (by simp))).trans (k7.mono (T := [b, mt, mu]) (by simp))).trans (k8.mono (T := [b, mt, mu]) (by simp))))
  have h1 := k1.size
  exact ⟨rfl, (ka.fresh (T := []) (by intro x hx hlt; simp at hx; omega)).alloc' _⟩

theorem poolKnown_typed (W : World) : Calls Try.prog 6 #[] W fun e W' => e = .returned (.bool true) ∧ Below W.heap.size W W' :=
  (known_walk W).mono fun e W' ⟨he, k⟩ => ⟨he, k.below (Nat.le_refl _) (by simp)⟩
end Go.Proofs.Ytihjdlmmjdjggaa
