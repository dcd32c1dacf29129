/-
  SniffLooks: what is told of bytes is what the document says. Condition: the library's variables lie as listed; the bytes lie in memory.
-/
import Derived.Test.YtpoheemjdieogaaGreatDoorHrP
import Derived.Test.YtpoheemjdieogaaGreatDoorSnZ
import Derived.Test.YtpoheemjdieogaaGreatDoorHttpV
namespace Go.Proofs.YtpoheemjdieogaaGreatDoor
open Go.RowKit Go.ChangeShapes Go.WideShapes Go.ChangeAt Go.Joins Go.Lib
set_option linter.unusedVariables false
set_option linter.unusedSimpArgs false

set_option maxRecDepth 100000 in
set_option maxHeartbeats 8000000 in
theorem looks_walk (w : World) (hw : LW w) (A : Option Addr) (n c : Nat) (l : List UInt8) (hb : BytesV w (.slice A n c) l) (most : Int) (closed : Bool) :
    Calls Tryz.prog 3 #[.slice A n c, .int .i64 most, .bool closed] w fun e w' => e = .returned (.bool true) ∧ Keeps [] w w' := by
  obtain ⟨hf, hnc, hcm⟩ := hb.form
  obtain ⟨m, hm⟩ : ∃ m, min n 5000 = m := ⟨_, rfl⟩
  have q1 : ∀ z : Int, (5000 : Int) < (n : Int) → min (n : Int) 5000 = 5000 := fun _ h => by omega
  have r1 : min (n : Int) 5000 = (m : Int) := by omega
  have t1 : (0 : Int) ≤ (m : Int) := by omega
  have t2 : (m : Int) ≤ (c : Int) := by omega
  obtain ⟨x, hx⟩ : ∃ x, l.take m = x := ⟨_, rfl⟩
  have hb1 : BytesV w (.slice A m c) x := by rw [← hx]; exact hb.cut (by omega)
  have hm4 : m ≤ 5000 := by omega
  have B1 := Lib.hid hb1
  have HW := Lib.hid hw
  obtain ⟨⟨k, nm⟩, hk⟩ : ∃ r, lookS x most closed = r := ⟨_, rfl⟩
  have HS := Lib.hid (Slook_any w hw A m c x hb1 (by omega) most closed)
  rw [hk] at HS
  clear hb hm hx hb1 hw hf q1
  go_enter Tryz.func3, Tryz.ntmps3
  go_wp2_with fail
  refine HS.out.mono ?_
  rintro e w1 ⟨rfl, k1⟩
  have K1 := Lib.hid k1
  have HR := Lib.hid (rslook_any w1 A m c x (B1.out.keep0 k1) (by omega) most closed)
  rw [hk] at HR
  clear k1 HS
  go_wp2_with fail
  refine HR.out.mono ?_
  rintro e w2 ⟨rfl, k2⟩
  have K2 := Lib.hid (K1.out.trans k2)
  have HA := Lib.hid (sawake_any w2 (HW.out.keep0 (K1.out.trans k2)))
  clear k2 HR hk
  go_wp2_with fail
  refine HA.out.mono ?_
  rintro e w3 ⟨rfl, k3⟩
  have K3 := Lib.hid (K2.out.trans k3)
  clear k3 HA
  go_wp2_with fail
  go_ret
  exact ⟨rfl, K3.out⟩
set_option maxRecDepth 100000 in
theorem open_i {W : World} {v : Value} {b0 : Nat} (o : Value.okWide Tryz.prog W .any b0 3 v) : ∃ n : Int, v = .int .i64 n := by
  obtain ⟨n, rfl⟩ := okWide_int Tryz.underlying3 o
  exact ⟨n, rfl⟩
set_option maxRecDepth 100000 in
theorem sniffLooks_typed {H : Type} (enc : TypeId × Value → H) (W : World) (base : Nat) {v0 v1 v2 : Value} {d0 d1 d2 : DataW H} {p0 p1 p2 : List MemPlace}
    (o0 : Value.okWide Tryz.prog W .any base 22 v0) (o1 : Value.okWide Tryz.prog W .any base 3 v1) (o2 : Value.okWide Tryz.prog W .any base 4 v2)
    (h0 : DataW.Trod enc Tryz.prog W 0 (fun _ => true) true 22 v0 d0 p0) (h1 : DataW.Trod enc Tryz.prog W 0 (fun _ => true) true 3 v1 d1 p1) (h2 : DataW.Trod enc Tryz.prog W 0 (fun _ => true) true 4 v2 d2 p2) (hL : LW W) :
    Calls Tryz.prog 3 #[v0, v1, v2] W fun e W' => e = .returned (.bool true) ∧ Below W.heap.size W W' := by
  obtain ⟨A1, n1, c1, l1, rfl, hb1⟩ := open_bytes o0 h0
  obtain ⟨n, rfl⟩ := open_i o1
  obtain ⟨b, rfl⟩ := okWide_bool Tryz.underlying4 o2
  exact (looks_walk W hL A1 n1 c1 l1 hb1 n b).mono fun e W' ⟨he, k⟩ => ⟨he, k.below (Nat.le_refl _) (by simp)⟩
end Go.Proofs.YtpoheemjdieogaaGreatDoor
