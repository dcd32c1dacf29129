/-
  The law TlsStays over its arguments as they come in: it is true. No condition.
-/
import Derived.Test.YthcpeceamiibaaaDoorTlsV
namespace Go.Proofs.YthcpeceamiibaaaDoor
open Go.RowKit Go.ChangeShapes Go.WideShapes Go.ChangeAt Go.Joins Go.Lib
set_option linter.unusedVariables false
set_option linter.unusedSimpArgs false

theorem lookP_cases (b : List UInt8) : (lookP b).1 = 1 ∨ (lookP b).2 = ByteArray.empty ∧ ((lookP b).1 = 0 ∨ (lookP b).1 = 2 ∨ (lookP b).1 = 3) := by
  unfold lookP tellL
  cases lookM (partsL b).1 with
  | ok s =>
    simp only
    split
    · exact .inl rfl
    · exact .inr ⟨rfl, .inr (.inl rfl)⟩
  | error c =>
    simp only
    split
    · exact .inr ⟨rfl, .inr (.inr rfl)⟩
    · exact .inr ⟨rfl, .inl rfl⟩
theorem BytesV.cut {w : World} {A : Option Addr} {n c m : Nat} {l : List UInt8} (h : BytesV w (.slice A n c) l) (hm : m ≤ n) : BytesV w (.slice A m c) (l.take m) := by
  obtain ⟨hn, hc, hx⟩ := h.form
  obtain ⟨A', c', e, _, _, h3⟩ := h
  injection e with e1 e2 e3
  subst e1 e3
  have hl : (l.take m).length = m := by rw [List.length_take]; omega
  refine ⟨A, c, by rw [hl], by omega, hx, fun hp => ?_⟩
  obtain ⟨g, o, e, hcell⟩ := h3 (by omega)
  refine ⟨g, o, e, fun i x hx => hcell i x ?_⟩
  rw [List.getElem?_take] at hx
  split at hx
  · exact hx
  · cases hx
set_option maxRecDepth 100000 in
set_option maxHeartbeats 8000000 in
theorem stays_walk (w : World) (hw : LW w) (A1 A2 : Option Addr) (n1 n2 c1 c2 : Nat) (l1 l2 : List UInt8) (hb1 : BytesV w (.slice A1 n1 c1) l1) (hb2 : BytesV w (.slice A2 n2 c2) l2) :
    Calls Tryd.prog 4 #[.slice A1 n1 c1, .slice A2 n2 c2] w fun e w' => e = .returned (.bool true) ∧ Keeps [] w w' := by
  obtain ⟨m1, hm1⟩ : ∃ m, min n1 3000 = m := ⟨_, rfl⟩
  obtain ⟨m2, hm2⟩ : ∃ m, min n2 300 = m := ⟨_, rfl⟩
  obtain ⟨p1, p2⟩ := And.intro hb1.form.2.1 hb2.form.2.1
  have q1 : min (n1 : Int) 3000 = (m1 : Int) := by omega
  have q2 : min (n2 : Int) 300 = (m2 : Int) := by omega
  have r1 : (m1 : Int) ≤ (c1 : Int) := by omega
  have r2 : (m2 : Int) ≤ (c2 : Int) := by omega
  have t1 : (0 : Int) ≤ (m1 : Int) := by omega
  have t2 : (0 : Int) ≤ (m2 : Int) := by omega
  obtain ⟨x1, hx1⟩ : ∃ x, l1.take m1 = x := ⟨_, rfl⟩
  obtain ⟨x2, hx2⟩ : ∃ x, l2.take m2 = x := ⟨_, rfl⟩
  have B1 := Lib.hid (show BytesV w (.slice A1 m1 c1) x1 by rw [← hx1]; exact hb1.cut (by omega))
  have B2 := Lib.hid (show BytesV w (.slice A2 m2 c2) x2 by rw [← hx2]; exact hb2.cut (by omega))
  have hk1 : x1.length ≤ 3000 := by have := B1.out.form.1; omega
  have hk2 : x2.length ≤ 300 := by have := B2.out.form.1; omega
  have HK := Lib.hid (And.intro hk1 hk2)
  have HW := Lib.hid hw
  have HL1 := Lib.hid (look_B w.drew (hw.keep0 (Keeps.refl [] w).drew') _ x1 (B1.out.keep0 (Keeps.refl [] w).drew') (by omega))
  have HC := Lib.hid (lookP_cases x1)
  have HS := Lib.hid (lookP_stays x1 x2)
  obtain ⟨K, hK⟩ : ∃ K, (lookP x1).1 = K := ⟨_, rfl⟩
  obtain ⟨S, hS⟩ : ∃ S, (lookP x1).2 = S := ⟨_, rfl⟩
  have he : lookP x1 = (K, S) := by rw [← hK, ← hS]
  rw [hK, hS] at HL1 HC
  rw [hK, he] at HS
  clear hb1 hb2 hm1 hm2 p1 p2 hx1 hx2 hk1 hk2 hw hK hS he
  go_enter Tryd.func4, Tryd.ntmps4
  go_wp2_with fail
  go_region_held3 (fun _ => True) (trivial) (fail)
  all_goals
    go_wp2_with fail
    refine HL1.out.mono ?_
    rintro e w1 ⟨rfl, k1⟩
    have HK1 := Lib.hid ((Keeps.refl [] w).drew'.trans k1)
    clear k1 HL1
    go_wp2_with (at_builtin; first | (refine app_W rfl _ _ w (HK1.out.alloc' _) rfl _ ([]) rfl ((OwnB.new w1 #[] [] rfl (by simp)).weak HK1.out.size) _ x1 rfl (B1.out.keep0 (HK1.out.alloc' _)) (by have := HK.out; simp; omega) ?_; intro v2 w2 ho2 hk2) | (refine app_W rfl _ _ w hk2 rfl _ ([] ++ x1) rfl ho2 _ x2 rfl (B2.out.keep0 hk2) (by have := HK.out; simp; omega) ?_; intro v3 w3 ho3 hk3))
    have HO3 := Lib.hid (show OwnB w3 w.heap.size v3 (x1 ++ x2) from ho3)
    have HK3 := Lib.hid hk3
    have HL2 := Lib.hid (look_B w3 (HW.out.keep0 hk3) v3 (x1 ++ x2) HO3.out.bytes (by have := HK.out; simp; omega))
    obtain ⟨M, hM⟩ : ∃ M, lookP (x1 ++ x2) = M := ⟨_, rfl⟩
    rw [hM] at HL2 HS
    clear ho2 hk2 ho3 hk3 hM
    refine HL2.out.mono ?_
    rintro e w4 ⟨rfl, k4⟩
    have HK4 := Lib.hid (HK3.out.trans k4)
    have HAW := Lib.hid (awake_any w4 (HW.out.keep0 HK4.out))
    clear k4 HL2
    rcases HC.out with rfl | ⟨rfl, rfl | rfl | rfl⟩
    · have hS := HS.out (by omega)
      subst hS
      go_wp2_with fail
      refine HAW.out.mono ?_
      rintro e w5 ⟨rfl, k5⟩
      have HK5 := Lib.hid (HK4.out.trans k5)
      clear k5 HAW
      go_wp2_with fail
      go_ret
      exact ⟨rfl, HK5.out⟩
    · go_wp2_with fail
      refine HAW.out.mono ?_
      rintro e w5 ⟨rfl, k5⟩
      have HK5 := Lib.hid (HK4.out.trans k5)
      clear k5 HAW
      go_wp2_with fail
      go_ret
      exact ⟨rfl, HK5.out⟩
    · have hS := HS.out (by omega)
      subst hS
      go_wp2_with fail
      refine HAW.out.mono ?_
      rintro e w5 ⟨rfl, k5⟩
      have HK5 := Lib.hid (HK4.out.trans k5)
      clear k5 HAW
      go_wp2_with fail
      go_ret
      exact ⟨rfl, HK5.out⟩
    · have hS := HS.out (by omega)
      subst hS
      go_wp2_with fail
      refine HAW.out.mono ?_
      rintro e w5 ⟨rfl, k5⟩
      have HK5 := Lib.hid (HK4.out.trans k5)
      clear k5 HAW
      go_wp2_with fail
      go_ret
      exact ⟨rfl, HK5.out⟩
set_option maxRecDepth 100000 in
theorem tlsStays_typed {H : Type} (enc : TypeId × Value → H) (W : World) (base : Nat) {v0 v1 : Value} {d0 d1 : DataW H} {p0 p1 : List MemPlace}
    (o0 : Value.okWide Tryd.prog W .any base 22 v0) (o1 : Value.okWide Tryd.prog W .any base 22 v1)
    (h0 : DataW.Trod enc Tryd.prog W 0 (fun _ => true) true 22 v0 d0 p0) (h1 : DataW.Trod enc Tryd.prog W 0 (fun _ => true) true 22 v1 d1 p1) (hL : LW W) :
    Calls Tryd.prog 4 #[v0, v1] W fun e W' => e = .returned (.bool true) ∧ Below W.heap.size W W' := by
  obtain ⟨A1, n1, c1, l1, rfl, hb1⟩ := open_bytes o0 h0
  obtain ⟨A2, n2, c2, l2, rfl, hb2⟩ := open_bytes o1 h1
  exact (stays_walk W hL A1 A2 n1 n2 c1 c2 l1 l2 hb1 hb2).mono fun e W' ⟨he, k⟩ => ⟨he, k.below (Nat.le_refl _) (by simp)⟩
end Go.Proofs.YthcpeceamiibaaaDoor
