/-
  SniffParts, walked: however bytes come, the same is told at the end. Condition: the library's variables lie as listed; the bytes lie in memory.
-/
import Derived.Test.YtpoheemjdieogaaGreatDoorSnQ
import Derived.Test.YtpoheemjdieogaaGreatDoorSnA
import Derived.Deep.LoopGhost
import Derived.Deep.RegionHeldLaw
namespace Go.Proofs.YtpoheemjdieogaaGreatDoor
open Go.RowKit Go.Lib
set_option linter.unusedVariables false
set_option linter.unusedSimpArgs false

set_option maxRecDepth 100000 in
set_option maxHeartbeats 8000000 in
theorem parts_walk (w : World) (hw : LW w) (A : Option Addr) (n c : Nat) (l : List UInt8) (hb : BytesV w (.slice A n c) l) (closed : Bool) :
    Calls Tryz.prog 6 #[.slice A n c, .bool closed] w fun e w' => e = .returned (.bool true) ∧ Keeps [] w w' := by
  obtain ⟨hf, hnc, hcm⟩ := hb.form
  obtain ⟨m, hm⟩ : ∃ m, min n 400 = m := ⟨_, rfl⟩
  have q1 : ∀ z : Int, (400 : Int) < (n : Int) → min (n : Int) 400 = 400 := fun _ h => by omega
  have r1 : min (n : Int) 400 = (m : Int) := by omega
  have t1 : (0 : Int) ≤ (m : Int) := by omega
  have t2 : (m : Int) ≤ (c : Int) := by omega
  obtain ⟨x, hx⟩ : ∃ x, l.take m = x := ⟨_, rfl⟩
  have hb1 : BytesV w (.slice A m c) x := by rw [← hx]; exact hb.cut (by omega)
  have hl := hb1.form.1
  have hm4 : m ≤ 400 := by omega
  have B1 := Lib.hid hb1
  have HL := Lib.hid (And.intro hl.symm hm4)
  have HW := Lib.hid hw
  clear hb hm hx hb1 hw hl hf q1
  go_enter Tryz.func6, Tryz.ntmps6
  go_wp2_with fail
  refine (snew_ok w 16384 (by omega) (by omega)).mono ?_
  rintro e w1 ⟨p, rfl, hs1, hp1, k1⟩
  have S1 := Lib.hid hs1
  have HP1 := Lib.hid hp1
  have K1 := Lib.hid k1
  clear hs1 hp1 k1
  go_wp2_with fail
  refine (snew_ok w1 16384 (by omega) (by omega)).mono ?_
  rintro e w2 ⟨q, rfl, hs2, hq2, k2⟩
  have S2 := Lib.hid hs2
  have HQ2 := Lib.hid hq2
  have K2 := Lib.hid k2
  have HAW := Lib.hid (sawake_any w2 (HW.out.keep0 (K1.out.trans k2)))
  clear hs2 hq2 k2
  go_wp2_with fail
  refine HAW.out.mono ?_
  rintro e w3 ⟨rfl, k3⟩
  have K03 := Lib.hid ((K1.out.trans K2.out).trans k3)
  obtain ⟨B, hB⟩ : ∃ B, w3.heap.size = B := ⟨_, rfl⟩
  have hpq : w.heap.size ≤ p ∧ p < q ∧ q < B := by
    have h1 := HP1.out
    have h2 := HQ2.out
    have h3 := lt_of_block S1.out
    have h4 := lt_of_block S2.out
    have h5 := k3.size
    omega
  have hsp : SnB w3 p (.slice none 0 0) ⟨[], 16384, false, 0, ByteArray.empty⟩ := (k3.block p (by have := lt_of_block S2.out; omega) (by simp)).trans ((K2.out.block p (lt_of_block S1.out) (by simp)).trans S1.out)
  have hsq : SnB w3 q (.slice none 0 0) ⟨[], 16384, false, 0, ByteArray.empty⟩ := (k3.block q (lt_of_block S2.out) (by simp)).trans S2.out
  have SP := Lib.hid (show SnAt w3 B p (stAt []) from SnAt.start hsp rfl (by omega) (by omega))
  have SQ := Lib.hid (show SnAt w3 B q (stAt []) from SnAt.start hsq rfl (by omega) (by omega))
  have PQ := Lib.hid hpq
  clear hsp hsq hpq hB k3 HAW S1 S2 HP1 HQ2 K1 K2 w1 w2
  go_wp2_with fail
  go_loopg [46] (m + 1) (fun g iv wx => ∃ i : Nat, iv = .int .i64 i ∧ i ≤ m ∧ g = m + 1 - i ∧ Hid (Keeps [p] w3 wx ∧ SnAt wx B p (stAt (x.take i))))
  case atStart => exact ⟨0, rfl, by omega, by omega, Lib.hid ⟨Keeps.refl _ _, SP.out⟩⟩
  case round =>
    obtain ⟨i, rfl, hi, hg, HI⟩ := hrel
    subst hg
    have HKR := Lib.hid (show Keeps [] w wr from (((K03.out.mono (T := [p]) (by simp)).trans HI.out.1)).far (by simp; exact PQ.out.1))
    rcases Nat.lt_or_ge i m with hlt | hge
    · have hltI : (i : Int) < (m : Int) := by omega
      have hi0 : (0 : Int) ≤ (i : Int) := by omega
      obtain ⟨g0, o0, rfl, hcell⟩ := B1.out.get (by omega)
      obtain ⟨c0, hc0⟩ : ∃ c0, x[i]? = some c0 := ⟨_, List.getElem?_eq_getElem (by have := HL.out.1; omega)⟩
      have cc : wr.cell? ⟨g0, o0 + i, none⟩ = some (.int .u8 (c0.toNat : Int)) := cell_keeps HKR.out (hcell i c0 hc0) (by simp)
      have HX := Lib.hid (show x.take i ++ [c0] = x.take (i + 1) by rw [List.take_add_one, hc0]; rfl)
      clear hcell hc0
      go_wp2_with fail
      refine calls_gn fun w4 hw4 => ?_
      have k4 : Keeps [] wr w4 := by rw [hw4]; exact Keeps.alloc _ _ _
      have hb4 : BytesV w4 (.slice (some ⟨wr.heap.size, 0, none⟩) 1 1) [c0] := by rw [hw4]; exact (OwnB.new wr #[.int .u8 c0.toNat] [c0] rfl (by simp)).bytes
      have HT := Lib.hid (take_at w4 B p (x.take i) (fun y k => HW.out.far (((HKR.out.trans k4).mono (T := [p]) (by simp)).trans k) (by simp; exact PQ.out.1)) (HI.out.2.keep0 k4) _ 1 1 [c0] hb4 (by rw [HX.out, List.length_take]; have := HL.out; omega))
      rw [HX.out] at HT
      have K4 := Lib.hid k4
      clear hw4 k4 hb4
      refine HT.out.mono ?_
      rintro e w5 ⟨rfl, hs5, k5⟩
      have H5 := Lib.hid (And.intro ((HI.out.1.trans (K4.out.mono (by simp))).trans k5) hs5)
      clear HT hs5 k5 cc
      go_wp2_with fail
      go_roundg (m + 1 - (i + 1))
      case measure => omega
      case rel => exact ⟨i + 1, by go_num, by omega, rfl, H5⟩
    · have hie : i = m := by omega
      subst hie
      have hltI : ¬ (i : Int) < (i : Int) := by omega
      have HTK := Lib.hid (show x.take i = x from List.take_of_length_le (by have := HL.out; omega))
      rw [HTK.out] at HI
      clear hi
      go_wp2_with fail
      have HQR := HI.out.1
      have HT := Lib.hid (take_at wr B q [] (fun y k => HW.out.far (((HKR.out).mono (T := [q]) (by simp)).trans k) (by simp; have := PQ.out; omega)) (SQ.out.keepS HI.out.1 (by simp; have := PQ.out; omega) (by simp; have := PQ.out; omega)) A i c x (B1.out.keep0 HKR.out) (by have := HL.out; rw [List.nil_append]; omega))
      rw [List.nil_append] at HT
      refine HT.out.mono ?_
      rintro e w5 ⟨rfl, hs5, k5⟩
      have HK5 := Lib.hid (show Keeps [] w w5 from ((HKR.out.mono (T := [q]) (by simp)).trans k5).far (by simp; have := PQ.out; omega))
      have S5 := Lib.hid hs5
      have P5 := Lib.hid (HI.out.2.keepS k5 (by simp; have := PQ.out; omega) (by simp; have := PQ.out; omega))
      clear HT hs5 k5 HQR HI HKR
      go_upto_if 70 with fail
      go_cut [] (fun wx => ∃ st : SS, Hid (SOk st ∧ st.b = x ∧ Keeps [] w wx ∧ SnAt wx B p st ∧ SnAt wx B q st))
      case first =>
        cases closed with
        | true =>
          go_wp2_with fail
          refine (sclose_any w5 B p (stAt x) (fun y k => HW.out.far ((HK5.out.mono (T := [p]) (by simp)).trans k) (by simp; exact PQ.out.1)) P5.out (SOk.at (by have := HL.out; omega))).mono ?_
          rintro e w6 ⟨rfl, hp6, k6⟩
          have HK6 := Lib.hid (show Keeps [] w w6 from ((HK5.out.mono (T := [p]) (by simp)).trans k6).far (by simp; exact PQ.out.1))
          have P6 := Lib.hid (show SnAt w6 B p (clAt x) from hp6)
          have S6 := Lib.hid (S5.out.keepS k6 (by simp; have := PQ.out; omega) (by simp; have := PQ.out; omega))
          clear hp6 k6 P5 S5
          go_wp2_with fail
          refine (sclose_any w6 B q (stAt x) (fun y k => HW.out.far ((HK6.out.mono (T := [q]) (by simp)).trans k) (by simp; have := PQ.out; omega)) S6.out (SOk.at (by have := HL.out; omega))).mono ?_
          rintro e w7 ⟨rfl, hq7, k7⟩
          have HE := Lib.hid (And.intro (SOk.cl (b := x) (by have := HL.out; omega)) (And.intro (clAt_b x) (And.intro (show Keeps [] w w7 from ((HK6.out.mono (T := [q]) (by simp)).trans k7).far (by simp; have := PQ.out; omega)) (And.intro (P6.out.keepS k7 (by simp; have := PQ.out; omega) (by simp; have := PQ.out; omega)) (show SnAt w7 B q (clAt x) from hq7)))))
          clear hq7 k7 P6 S6
          go_wp2_with fail
          go_meet
          exact ⟨_, HE⟩
        | false =>
          have HE := Lib.hid (And.intro (SOk.at (b := x) (by have := HL.out; omega)) (And.intro (show (stAt x).b = x from rfl) (And.intro HK5.out (And.intro P5.out S5.out))))
          go_wp2_with fail
          go_meet
          exact ⟨_, HE⟩
      case rest =>
        obtain ⟨st, HE⟩ := hcut
        clear HK5 P5 S5
        have HT1 := Lib.hid (stold_any wc B p st HE.out.2.2.2.1 HE.out.1)
        go_wp2_with fail
        refine HT1.out.mono ?_
        rintro e w8 ⟨rfl, k8⟩
        have K8 := Lib.hid k8
        have HT2 := Lib.hid (stold_any w8 B q st (HE.out.2.2.2.2.keep0 k8) HE.out.1)
        clear k8 HT1
        go_wp2_with fail
        refine HT2.out.mono ?_
        rintro e w9 ⟨rfl, k9⟩
        have K9 := Lib.hid (K8.out.trans k9)
        clear k9 HT2
        obtain ⟨t0, ht0⟩ : ∃ t0, st.told = t0 := ⟨_, rfl⟩
        obtain ⟨n0, hn0⟩ : ∃ n0, st.name = n0 := ⟨_, rfl⟩
        rw [ht0, hn0]
        go_wp2_with fail
        have HBY := Lib.hid (fun W pp (k : Keeps [] w9 W) (h : SnAt wc B pp st) => (show Calls Tryz.prog 20 #[.pointer (some ⟨pp, 0, none⟩)] W fun e w' => ∃ v, e = .returned v ∧ OwnB w' W.heap.size v x ∧ Keeps [] W w' by have h1 := sbytes_any W B pp st (h.keep0 (K9.out.trans k)) HE.out.1; rw [HE.out.2.1] at h1; exact h1))
        have HRM := Lib.hid (fun W pp (k : Keeps [] w9 W) (h : SnAt wc B pp st) => sroom_any W B pp st (h.keep0 (K9.out.trans k)) HE.out.1)
        have HPQ := Lib.hid (And.intro HE.out.2.2.2.1 HE.out.2.2.2.2)
        have HKW := Lib.hid (HE.out.2.2.1.trans K9.out)
        obtain ⟨XS, hXS⟩ : ∃ XS : ByteArray, (⟨x.toArray⟩ : ByteArray) = XS := ⟨_, rfl⟩
        have HXS := Lib.hid hXS
        have hcv : (convert 22 9 (.slice A i c)).run Tryz.prog w9.drew = .ok (.string XS) w9.drew := by have h := (B1.out.keep0 HKW.out.drew').str0 22 9 5 Tryz.underlying22 Tryz.underlying5 Tryz.underlying9; rw [hXS] at h; exact h
        clear hXS
        obtain ⟨R0, hR0⟩ : ∃ R0, ((st.most - st.b.length : Nat) : Int) = R0 := ⟨_, rfl⟩
        rw [hR0] at HRM
        go_region_held_law (fun W => Keeps [] w9 W ∧ (convert 22 9 (.slice A i c)).run Tryz.prog W = .ok (.string XS) W)
          (first | exact ⟨(Keeps.refl [] w9).drew', hcv⟩ | exact ⟨hk15, hcv15⟩ | exact ⟨hk14, hcv14⟩ | exact ⟨hk13, hcv13⟩ | exact ⟨hk12, hcv12⟩)
          (first
            | (go_at_call 20; with_reducible refine (HBY.out w9.drew p (Keeps.refl [] w9).drew' HPQ.out.1).mono ?_; rintro e w12 ⟨v12, rfl, ho12, k12⟩; have hk12 : Keeps [] w9 w12 := (Keeps.refl [] w9).drew'.trans k12; obtain ⟨A12, c12, rfl⟩ := ho12.form; have hcs12 := ho12.bytes.str0 22 9 5 Tryz.underlying22 Tryz.underlying5 Tryz.underlying9; rw [HXS.out] at hcs12; have hcv12 := (B1.out.keep0 (HKW.out.trans hk12)).str0 22 9 5 Tryz.underlying22 Tryz.underlying5 Tryz.underlying9; rw [HXS.out] at hcv12)
            | (go_at_call 20; with_reducible refine (HBY.out w12 q hk12 HPQ.out.2).mono ?_; rintro e w13 ⟨v13, rfl, ho13, k13⟩; have hk13 : Keeps [] w9 w13 := hk12.trans k13; obtain ⟨A13, c13, rfl⟩ := ho13.form; have hcs13 := ho13.bytes.str0 22 9 5 Tryz.underlying22 Tryz.underlying5 Tryz.underlying9; rw [HXS.out] at hcs13; have hcv13 := (B1.out.keep0 (HKW.out.trans hk13)).str0 22 9 5 Tryz.underlying22 Tryz.underlying5 Tryz.underlying9; rw [HXS.out] at hcv13)
            | (go_at_call 21; with_reducible refine (HRM.out w13 p hk13 HPQ.out.1).mono ?_; rintro e w14 ⟨rfl, k14⟩; have hk14 : Keeps [] w9 w14 := hk13.trans k14; have hcv14 := (B1.out.keep0 (HKW.out.trans hk14)).str0 22 9 5 Tryz.underlying22 Tryz.underlying5 Tryz.underlying9; rw [HXS.out] at hcv14)
            | (go_at_call 21; with_reducible refine (HRM.out w14 q hk14 HPQ.out.2).mono ?_; rintro e w15 ⟨rfl, k15⟩; have hk15 : Keeps [] w9 w15 := hk14.trans k15; have hcv15 := (B1.out.keep0 (HKW.out.trans hk15)).str0 22 9 5 Tryz.underlying22 Tryz.underlying5 Tryz.underlying9; rw [HXS.out] at hcv15))
        all_goals
          go_wp2_with fail
          go_ret
          exact ⟨rfl, HKW.out.trans hk15⟩
end Go.Proofs.YtpoheemjdieogaaGreatDoor
