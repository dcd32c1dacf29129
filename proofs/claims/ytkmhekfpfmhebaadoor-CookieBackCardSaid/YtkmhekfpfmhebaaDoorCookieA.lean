/-
  The walks of the cookie laws' helpers: awake, may. Condition: the table of classes reads as laid.
-/
import Derived.Test.YtkmhekfpfmhebaaDoorCookieK
import Derived.Test.YtkmhekfpfmhebaaDoorCookieN
import Derived.Test.YtkmhekfpfmhebaaDoorCookieR
namespace Go.Proofs.YtkmhekfpfmhebaaDoor
open Go.RowKit

theorem makeC_low {key : Int} {t : Tup} {cl tick : Int} {x : Inf} (hk : U64 key) (hx : x.Ok) : makeC key t cl tick x % 256 = says x := by
  obtain ⟨h0, h1⟩ := hashOf_bd hk t cl (tick / 64)
  unfold makeC
  rw [if_pos hx]
  have : 0 ≤ says x ∧ says x < 256 := by
    obtain ⟨⟨a, b⟩, c, d⟩ := hx
    unfold says
    (repeat' split) <;> omega
  unfold topOf
  omega
theorem makeC_bd {key : Int} {t : Tup} {cl tick : Int} {x : Inf} (hk : U64 key) : U32 (makeC key t cl tick x) := by
  obtain ⟨h0, h1⟩ := hashOf_bd hk t cl (tick / 64)
  unfold makeC
  split
  · rename_i hx
    have : 0 ≤ says x ∧ says x < 256 := by
      obtain ⟨⟨a, b⟩, c, d⟩ := hx
      unfold says
      (repeat' split) <;> omega
    unfold topOf
    exact ⟨by omega, by omega⟩
  · exact ⟨by omega, by omega⟩

set_option maxHeartbeats 2000000 in
theorem awake_any (w : World) (hL : Laid w) :
    Calls Tryd.prog 15 #[] w fun e w' => e = .returned (.bool true) ∧ Keeps [] w w' := by
  have HL := Lib.hid hL
  clear hL
  go_enter Tryd.func15, Tryd.ntmps15
  go_wp2_with fail
  refine (class_any _ HL.out 1460 (by omega) (by omega)).mono ?_
  rintro e w1 ⟨rfl, rfl⟩
  rw [show clsI 1460 = 7 from rfl, show clsB 1460 = true from rfl]
  go_wp2_with fail
  refine (class_any _ HL.out 1459 (by omega) (by omega)).mono ?_
  rintro e w1 ⟨rfl, rfl⟩
  rw [show clsI 1459 = 6 from rfl, show clsB 1459 = true from rfl]
  go_wp2_with fail
  refine (class_any _ HL.out 87 (by omega) (by omega)).mono ?_
  rintro e w1 ⟨rfl, rfl⟩
  rw [show clsI 87 = 0 from rfl, show clsB 87 = false from rfl]
  go_wp2_with fail
  have k1 : U64 1 := ⟨by omega, by omega⟩
  have tk : Tup.Ok ⟨6, 0, 0, 0, 0⟩ := ⟨by decide, by decide, by decide, by decide, by decide, by decide, by decide, by decide, by decide, by decide⟩
  have x1 : Inf.Ok ⟨7, true, 7⟩ := by decide
  have x2 : Inf.Ok ⟨2, false, -1⟩ := by decide
  have i1 : Inf.In ⟨7, true, 7⟩ := ⟨by decide, by decide, by decide, by decide⟩
  have i2 : Inf.In ⟨2, false, -1⟩ := ⟨by decide, by decide, by decide, by decide⟩
  have v1 := makeC_low (t := ⟨6, 0, 0, 0, 0⟩) (cl := 2) (tick := 3) k1 x1
  have v2 := makeC_low (t := ⟨6, 0, 0, 0, 0⟩) (cl := 2) (tick := 3) k1 x2
  have u1 := makeC_bd (t := ⟨6, 0, 0, 0, 0⟩) (cl := 2) (tick := 3) (x := ⟨7, true, 7⟩) k1
  have u2 := makeC_bd (t := ⟨6, 0, 0, 0, 0⟩) (cl := 2) (tick := 3) (x := ⟨2, false, -1⟩) k1
  refine (make_any _ HL.out 1 ⟨6, 0, 0, 0, 0⟩ 2 3 ⟨7, true, 7⟩ k1 tk (by omega) (by omega) (by omega) (by omega) i1).mono ?_
  rintro e w1 ⟨rfl, k2⟩
  have K2 := Lib.hid k2
  rw [show makeE ⟨7, true, 7⟩ = 0 from rfl]
  have HM := Lib.hid (make_any w1 (HL.out.keep K2.out) 1 ⟨6, 0, 0, 0, 0⟩ 2 3 ⟨2, false, -1⟩ k1 tk (by omega) (by omega) (by omega) (by omega) i2)
  generalize makeC 1 ⟨6, 0, 0, 0, 0⟩ 2 3 ⟨7, true, 7⟩ = n1 at *
  have w1' : (n1 % 256 == 247) = true := by rw [v1]; rfl
  obtain ⟨a1, b1⟩ := u1
  clear v1 k2 k1 tk x1 x2 i1 i2
  go_wp2_with fail
  refine HM.out.mono ?_
  rintro e w2 ⟨rfl, k3⟩
  rw [show makeE ⟨2, false, -1⟩ = 0 from rfl]
  have K3 := Lib.hid k3
  generalize makeC 1 ⟨6, 0, 0, 0, 0⟩ 2 3 ⟨2, false, -1⟩ = n2 at *
  have w2' : (n2 % 256 == 79) = true := by rw [v2]; rfl
  obtain ⟨a2, b2⟩ := u2
  clear v2 k3
  go_wp2_with fail
  go_ret
  exact ⟨by simp, K2.out.trans K3.out⟩

def mayI (x : Inf) : Inf := ⟨x.cl % 8, x.sk, x.sc % 16 - 1⟩
end Go.Proofs.YtkmhekfpfmhebaaDoor
