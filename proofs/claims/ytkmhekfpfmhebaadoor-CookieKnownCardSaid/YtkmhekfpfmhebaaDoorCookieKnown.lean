/-
  The walk of CookieKnown (closed). Condition: the table of classes reads as laid.
-/
import Derived.Test.YtkmhekfpfmhebaaDoorCookieO
namespace Go.Proofs.YtkmhekfpfmhebaaDoor
open Go.RowKit

theorem hash_zero : hashOf 0 ⟨0, 0, 0, 0, 0⟩ 0 0 = 0 := by kernel_rfl
theorem make_zero : makeC 0 ⟨0, 0, 0, 0, 0⟩ 0 0 ⟨0, false, -1⟩ = 15 := by kernel_rfl

set_option maxHeartbeats 4000000 in
theorem known_walk (w : World) (hL : Laid w) :
    Calls Tryd.prog 6 #[] w fun e w' => e = .returned (.bool true) ∧ Keeps [] w w' := by
  have HL := Lib.hid hL
  have zk := Lib.hid (show U64 0 from ⟨by omega, by omega⟩)
  have tk := Lib.hid (show Tup.Ok ⟨0, 0, 0, 0, 0⟩ from ⟨by decide, by decide, by decide, by decide, by decide, by decide, by decide, by decide, by decide, by decide⟩)
  have i1 := Lib.hid (show Inf.In ⟨8, false, 0⟩ from ⟨by decide, by decide, by decide, by decide⟩)
  have i2 := Lib.hid (show Inf.In ⟨-1, false, 0⟩ from ⟨by decide, by decide, by decide, by decide⟩)
  have i3 := Lib.hid (show Inf.In ⟨0, false, 15⟩ from ⟨by decide, by decide, by decide, by decide⟩)
  have i4 := Lib.hid (show Inf.In ⟨0, false, -2⟩ from ⟨by decide, by decide, by decide, by decide⟩)
  have i5 := Lib.hid (show Inf.In ⟨0, false, -1⟩ from ⟨by decide, by decide, by decide, by decide⟩)
  clear hL
  go_enter Tryd.func6, Tryd.ntmps6
  go_wp2_with fail
  refine (make_any _ HL.out 0 ⟨0, 0, 0, 0, 0⟩ 0 0 ⟨8, false, 0⟩ zk.out tk.out (by omega) (by omega) (by omega) (by omega) i1.out).mono ?_
  rintro e w1 ⟨rfl, k1⟩
  rw [show makeE ⟨8, false, 0⟩ = 1 from rfl]
  generalize makeC 0 ⟨0, 0, 0, 0, 0⟩ 0 0 ⟨8, false, 0⟩ = n1
  have K1 := Lib.hid k1
  clear k1
  go_wp2_with fail
  refine (make_any _ (HL.out.keep K1.out) 0 ⟨0, 0, 0, 0, 0⟩ 0 0 ⟨-1, false, 0⟩ zk.out tk.out (by omega) (by omega) (by omega) (by omega) i2.out).mono ?_
  rintro e w2 ⟨rfl, k1⟩
  rw [show makeE ⟨-1, false, 0⟩ = 1 from rfl]
  generalize makeC 0 ⟨0, 0, 0, 0, 0⟩ 0 0 ⟨-1, false, 0⟩ = n2
  have K2 := Lib.hid (K1.out.trans k1)
  clear k1
  go_wp2_with fail
  refine (make_any _ (HL.out.keep K2.out) 0 ⟨0, 0, 0, 0, 0⟩ 0 0 ⟨0, false, 15⟩ zk.out tk.out (by omega) (by omega) (by omega) (by omega) i3.out).mono ?_
  rintro e w3 ⟨rfl, k1⟩
  rw [show makeE ⟨0, false, 15⟩ = 1 from rfl]
  generalize makeC 0 ⟨0, 0, 0, 0, 0⟩ 0 0 ⟨0, false, 15⟩ = n3
  have K3 := Lib.hid (K2.out.trans k1)
  clear k1
  go_wp2_with fail
  refine (make_any _ (HL.out.keep K3.out) 0 ⟨0, 0, 0, 0, 0⟩ 0 0 ⟨0, false, -2⟩ zk.out tk.out (by omega) (by omega) (by omega) (by omega) i4.out).mono ?_
  rintro e w4 ⟨rfl, k1⟩
  rw [show makeE ⟨0, false, -2⟩ = 1 from rfl]
  generalize makeC 0 ⟨0, 0, 0, 0, 0⟩ 0 0 ⟨0, false, -2⟩ = n4
  have K4 := Lib.hid (K3.out.trans k1)
  clear k1
  go_wp2_with fail
  refine (make_any _ (HL.out.keep K4.out) 0 ⟨0, 0, 0, 0, 0⟩ 0 0 ⟨0, false, -1⟩ zk.out tk.out (by omega) (by omega) (by omega) (by omega) i5.out).mono ?_
  rintro e w5 ⟨rfl, k1⟩
  rw [show makeE ⟨0, false, -1⟩ = 0 from rfl, make_zero]
  have K5 := Lib.hid (K4.out.trans k1)
  clear k1
  have L5 := Lib.hid (HL.out.keep K5.out)
  go_wp2_with fail
  refine (class_any _ L5.out 536 (by omega) (by omega)).mono ?_
  rintro e w6 ⟨rfl, rfl⟩
  rw [show clsI 536 = 2 from rfl, show clsB 536 = true from rfl]
  go_wp2_with fail
  refine (class_any _ L5.out 65535 (by omega) (by omega)).mono ?_
  rintro e w6 ⟨rfl, rfl⟩
  rw [show clsI 65535 = 7 from rfl, show clsB 65535 = true from rfl]
  go_wp2_with fail
  refine (awake_any _ L5.out).mono ?_
  rintro e w7 ⟨rfl, k7⟩
  have K7 := Lib.hid (K5.out.trans k7)
  clear k7
  go_wp2_with fail
  refine (hash_any _ 0 ⟨0, 0, 0, 0, 0⟩ 0 0 zk.out tk.out (by omega) (by omega) (by omega) (by omega)).mono ?_
  rintro e w8 ⟨rfl, k8⟩
  rw [hash_zero]
  have K8 := Lib.hid (K7.out.trans k8)
  clear k8
  go_wp2_with fail
  go_ret
  exact ⟨rfl, K8.out⟩
theorem cookieKnown_typed (W : World) (hL : Laid W) :
    Calls Tryd.prog 6 #[] W fun e W' => e = .returned (.bool true) ∧ Below W.heap.size W W' :=
  (known_walk W hL).mono fun e W' ⟨he, k⟩ => ⟨he, k.below (Nat.le_refl _) (by simp)⟩
end Go.Proofs.YtkmhekfpfmhebaaDoor
