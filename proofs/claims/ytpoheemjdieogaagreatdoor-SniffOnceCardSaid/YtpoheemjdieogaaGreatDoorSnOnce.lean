/-
  SniffOnce, walked: told once. Condition: the library's variables lie as listed; the arguments lie in memory.
-/
import Derived.Test.YtpoheemjdieogaaGreatDoorSnN
import Derived.Test.YtpoheemjdieogaaGreatDoorSnA
import Derived.Deep.LoopGhost
import Derived.Deep.CutBlock
namespace Go.Proofs.YtpoheemjdieogaaGreatDoor
open Go.RowKit Go.Lib
set_option linter.unusedVariables false
set_option linter.unusedSimpArgs false

theorem BytesV.fromX {w : World} {A X : Option Addr} {n c k e : Nat} {l : List UInt8} (h : BytesV w (.slice A n c) l) (hk : k ≤ e) (he : e ≤ n) (hX : (if c = k then A else Option.map (fun x : Addr => x.add k) A) = X) : BytesV w (.slice X (e - k) (c - k)) ((l.drop k).take (e - k)) := by
  have hf := h.form
  by_cases h0 : e = k
  · subst h0
    rw [Nat.sub_self]
    exact BytesV.empty _ (by omega)
  · obtain ⟨g, o, rfl, _⟩ := h.get (by omega)
    rw [if_neg (by omega)] at hX
    exact h.sub hk he X (c - k) (fun _ => by rw [← hX]; simp only [Option.map_some]; congr 1; unfold Addr.add; split <;> simp_all) (by omega) (by omega)
theorem lookS_closed (b : List UInt8) (N : Nat) : (lookS b N true).1 ≠ 0 := by
  unfold lookS
  by_cases h : (look0 b).1 ≠ 0
  · rw [if_pos h]; exact h
  · rw [if_neg h]
    split
    · decide
    · rw [if_pos rfl]; decide
theorem take_cut (x : List UInt8) (a s : Nat) : x.take a ++ (x.drop a).take s = x.take (a + s) := by rw [List.take_add]
/-- a sniffer as the law has it -/
def stO (x : List UInt8) (a N : Nat) (T : Int) (NM : ByteArray) : SS := ⟨x.take a, N, false, T, NM⟩
set_option maxRecDepth 100000 in
set_option maxHeartbeats 8000000 in
theorem once_walk (w : World) (hw : LW w) (m0 : Nat) (hm0 : m0 < 65536) (A : Option Addr) (n c : Nat) (l : List UInt8) (hb : BytesV w (.slice A n c) l) (pA : Option Addr) (pn pc : Nat) (pl : List UInt8) (hp : BytesV w (.slice pA pn pc) pl) (cl : Bool) :
    Calls Tryz.prog 4 #[.int .u16 m0, .slice A n c, .agg #[.slice pA pn pc, .bool cl]] w fun e w' => e = .returned (.bool true) ∧ Keeps [] w w' := by
  obtain ⟨hf, hnc, hcm⟩ := hb.form
  obtain ⟨m, hm⟩ : ∃ m, min n 3000 = m := ⟨_, rfl⟩
  have r1 : min (n : Int) 3000 = (m : Int) := by omega
  have t1 : (0 : Int) ≤ (m : Int) := by omega
  have t2 : (m : Int) ≤ (c : Int) := by omega
  obtain ⟨x, hx⟩ : ∃ x, l.take m = x := ⟨_, rfl⟩
  have hb1 : BytesV w (.slice A m c) x := by rw [← hx]; exact hb.cut (by omega)
  have hl := hb1.form.1
  have hm4 : m ≤ 3000 := by omega
  have hmc : m ≤ c := by omega
  obtain ⟨r, hr⟩ : ∃ r, m0 % 16384 = r := ⟨_, rfl⟩
  obtain ⟨N, hN⟩ : ∃ N, 1 + r = N := ⟨_, rfl⟩
  have hN1 : 1 ≤ N := by omega
  have hN2 : N ≤ 16384 := by omega
  have u1 : (m0 : Int).tmod 16384 = (r : Int) := by rw [Int.tmod_eq_emod_of_nonneg (by omega)]; omega
  have u2 : IntKind.i64.wrap (1 + (r : Int)) = (N : Int) := by rw [wrap_in] <;> omega
  have u3 : IntKind.i64.wrap (m0 : Int) = (m0 : Int) := by rw [wrap_in] <;> omega
  obtain ⟨X, hX⟩ : ∃ X, w.heap.size = X := ⟨_, rfl⟩
  obtain ⟨w0, hw0⟩ : ∃ w0, w.alloc (.cells #[.slice pA pn pc, .bool cl] 29) = w0 := ⟨_, rfl⟩
  have k0 : Keeps [] w w0 := by rw [← hw0]; exact Keeps.alloc [] w _
  have hbx : w0.heap[X]? = some (.cells #[.slice pA pn pc, .bool cl] 29 (0, 0)) := by rw [← hw0, ← hX]; exact (MapKept.heap_alloc w _).1
  have B1 := Lib.hid (hb1.keep0 k0)
  have BP := Lib.hid (hp.keep0 k0)
  have BX := Lib.hid hbx
  have K0 := Lib.hid k0
  have HL := Lib.hid (And.intro hl.symm (And.intro hm4 (And.intro hN1 hN2)))
  have HW := Lib.hid (hw.keep0 k0)
  clear hb hm hx hb1 hw hl hf hp k0 hbx hr hN hm0
  go_enter Tryz.func4, Tryz.ntmps4
  go_wp2_with fail
  refine (snew_ok w0 N hN1 hN2).mono ?_
  rintro e w1 ⟨p, rfl, hs1, hp1, k1⟩
  have HP := Lib.hid hp1
  have K1 := Lib.hid k1
  obtain ⟨B, hB⟩ : ∃ B, p + 1 = B := ⟨_, rfl⟩
  have S1 := Lib.hid (show SnAt w1 B p (stO x 0 N 0 ByteArray.empty) from SnAt.start hs1 rfl (by omega) (by have := lt_of_block hs1; omega))
  have HA := Lib.hid (sawake_any w1 (HW.out.keep0 k1))
  clear hs1 hp1 k1 hB hw0 u1 u2 u3 r1 t1 t2
  go_wp2_with fail
  refine HA.out.mono ?_
  rintro e w2 ⟨rfl, k2⟩
  have K2 := Lib.hid ((K1.out.trans k2).mono (T := [p]) (by simp))
  have S2 := Lib.hid (S1.out.keep0 k2)
  have HLW := Lib.hid (fun y (k : Keeps [p] w0 y) => HW.out.far k (by simp; exact HP.out))
  clear k2 HA S1 K1
  go_upto_block 0 with fail
  go_cut [10, 11, 12] from 46 to 117 (fun tv nv av wx => ∃ (a : Nat) (T : Int) (NM : ByteArray), tv = .int .i64 T ∧ nv = .string NM ∧ av = .int .i64 a ∧ Hid (a ≤ m ∧ a ≤ N ∧ Keeps [p] w0 wx ∧ SnAt wx B p (stO x a N T NM)))
  case first =>
    go_wp2_with fail
    go_loopg [10, 11, 12, 13] 101 (fun g tv nv av iv wx => ∃ (i a : Nat) (T : Int) (NM : ByteArray), tv = .int .i64 T ∧ nv = .string NM ∧ av = .int .i64 a ∧ iv = .int .i64 i ∧ i ≤ 100 ∧ g = 101 - i ∧ Hid (a ≤ m ∧ a ≤ N ∧ Keeps [p] w0 wx ∧ SnAt wx B p (stO x a N T NM)))
    case atStart => exact ⟨0, 0, 0, ByteArray.empty, rfl, rfl, rfl, rfl, by omega, by omega, Lib.hid ⟨by omega, by omega, K2.out, S2.out⟩⟩
    case round =>
      obtain ⟨i, a, T, NM, rfl, rfl, rfl, rfl, hi, hg, HI⟩ := hrel
      subst hg
      rcases Nat.lt_or_ge a m with hlt | hge
      · have hltI : (a : Int) < (m : Int) := by omega
        rcases Nat.lt_or_ge i 100 with hil | hig
        · have hilI : (i : Int) < 100 := by omega
          obtain ⟨z0, hz0⟩ : ∃ z0, 1 + i = z0 := ⟨_, rfl⟩
          have hi1 : IntKind.i64.wrap (1 + (i : Int)) = (z0 : Int) := by rw [wrap_in] <;> omega
          have BXR := Lib.hid (show wr.heap[X]? = _ from (HI.out.2.2.1.block X (lt_of_block BX.out) (by have := HP.out; have := lt_of_block BX.out; simp; omega)).trans BX.out)
          have cb0 : wr.cell? ⟨X, 0, none⟩ = some (.slice pA pn pc) := cell_of_block BXR.out 0
          have KF := Lib.hid (HI.out.2.2.1.far (by simp; exact HP.out))
          go_upto_if 62 with fail
          go_cut [14] from 46 to 117 (fun sv wx => ∃ z : Nat, sv = .int .i64 z ∧ 1 ≤ z ∧ z ≤ 300 ∧ wx = wr)
          case first =>
            rcases Nat.lt_or_ge i pn with hip | hip
            · have hipI : (i : Int) < (pn : Int) := by omega
              have hi0 : (0 : Int) ≤ (i : Int) := by omega
              obtain ⟨g0, o0, rfl, hcell⟩ := BP.out.get (by omega)
              obtain ⟨y, hy⟩ : ∃ y, pl[i]? = some y := ⟨_, List.getElem?_eq_getElem (by have := BP.out.form.1; omega)⟩
              have cc : wr.cell? ⟨g0, o0 + i, none⟩ = some (.int .u8 (y.toNat : Int)) := cell_keeps KF.out (hcell i y hy) (by simp)
              have hyl := y.toNat_lt
              have hy1 : IntKind.i64.wrap (y.toNat : Int) = (y.toNat : Int) := by rw [wrap_in] <;> omega
              obtain ⟨z1, hz1⟩ : ∃ z1, y.toNat + 1 = z1 := ⟨_, rfl⟩
              have hy2 : IntKind.i64.wrap ((y.toNat : Int) + 1) = (z1 : Int) := by rw [wrap_in] <;> omega
              clear hcell hy
              go_wp2_with fail
              go_meet
              exact ⟨z1, rfl, by omega, by omega, rfl⟩
            · have hipI : ¬ (i : Int) < (pn : Int) := by omega
              go_wp2_with fail
              go_meet
              exact ⟨z0, rfl, by omega, by omega, rfl⟩
          case rest =>
            obtain ⟨z, rfl, hz1, hz2, hwcr⟩ := hcut
            obtain rfl := hwcr.symm
            clear hwcr
            obtain ⟨R, hR⟩ : ∃ R, m - a = R := ⟨_, rfl⟩
            obtain ⟨s, hs⟩ : ∃ s, min z R = s := ⟨_, rfl⟩
            obtain ⟨E, hE⟩ : ∃ E, a + s = E := ⟨_, rfl⟩
            have haN := HI.out.2.1
            have v1 : IntKind.i64.wrap ((m : Int) - (a : Int)) = (R : Int) := by rw [wrap_in] <;> omega
            have v2 : min (z : Int) (R : Int) = (s : Int) := by omega
            have v3 : IntKind.i64.wrap ((a : Int) + (s : Int)) = (E : Int) := by rw [wrap_in] <;> omega
            have v4 : (0 : Int) ≤ (a : Int) := by omega
            have v5 : (a : Int) ≤ (E : Int) := by omega
            have v6 : (E : Int) ≤ (c : Int) := by omega
            obtain ⟨XA, hXA⟩ : ∃ XA, Option.map (fun x : Addr => x.add a) A = XA := ⟨_, rfl⟩
            have hEm : E ≤ m := by omega
            have BS := Lib.hid (((B1.out.keep0 KF.out).fromX (show a ≤ E by omega) hEm (show (if c = a then A else Option.map (fun x : Addr => x.add a) A) = XA by rw [if_neg (by omega)]; exact hXA)))
            have HES := Lib.hid (show E - a = s ∧ (x.drop a).take (E - a) = (x.drop a).take s ∧ ((x.drop a).take s).length = s by
              have e : E - a = s := by omega
              refine ⟨e, by rw [e], ?_⟩
              rw [List.length_take, List.length_drop]; have := HL.out.1; omega)
            have hfs := HI.out.2.2.2
            have hls : (x.take a).length = a := by rw [List.length_take]; have := HL.out.1; omega
            have HLS := Lib.hid hls
            have HOKS := Lib.hid (show SOk (stO x a N T NM) from ⟨hN1, hN2, by show (x.take a).length ≤ N; omega⟩)
            have HTC := Lib.hid (show x.take a ++ (x.drop a).take (E - a) = x.take E by rw [HES.out.1, take_cut, hE])
            rcases Nat.lt_or_ge (N - a) s with hfull | hroom
            · have v7 : ¬ (E : Int) ≤ (N : Int) := by omega
              have HT := Lib.hid (stake_no wr B p (stO x a N T NM) (stO x a N T NM) 3 (fun y k => HLW.out y (HI.out.2.2.1.trans k)) hfs HOKS.out XA (E - a) (c - a) _ BS.out (by omega)
                (by unfold takeS stO; dsimp only; rw [if_neg (by simp), if_pos (by rw [HLS.out, HES.out.2.1, HES.out.2.2]; exact hfull)]) (by omega))
              clear hfs hls hfull cb0
              go_wp2_with fail
              refine HT.out.mono ?_
              rintro e w3 ⟨rfl, k3⟩
              have HF := Lib.hid (And.intro (show a ≤ m by omega) (And.intro (show a ≤ N by omega) (And.intro (HI.out.2.2.1.trans (k3.mono (by simp))) (HI.out.2.2.2.keep0 k3))))
              clear k3 HT
              go_wp2_with fail
              go_meet
              exact ⟨a, T, NM, rfl, rfl, rfl, HF⟩
            · have hEN : E ≤ N := by omega
              have HE1 := Lib.hid (show takeS (stO x a N T NM) ((x.drop a).take (E - a)) = (0, stO x E N T NM) by
                unfold takeS stO; dsimp only; rw [if_neg (by simp), if_neg (by rw [HLS.out, HES.out.2.1, HES.out.2.2]; omega), HTC.out])
              have hEl : (x.take E).length ≤ 90000 := by rw [List.length_take]; omega
              by_cases hT : T = 0
              · obtain ⟨res, hres⟩ : ∃ r, lookS (x.take E) N false = r := ⟨_, rfl⟩
                obtain ⟨T2, NM2⟩ := res
                have HE2 := Lib.hid (show tellS (stO x E N T NM) = stO x E N T2 NM2 by
                  rw [tellS_zero (show (stO x E N T NM).told = 0 from hT)]
                  show SS.mk (x.take E) N false (lookS (x.take E) N false).1 (lookS (x.take E) N false).2 = _
                  rw [hres]; rfl)
                subst hT
                have HT := Lib.hid (stake_ok wr B p (stO x a N 0 NM) _ _ (fun y k => HLW.out y (HI.out.2.2.1.trans k)) hfs HOKS.out XA (E - a) (c - a) _ BS.out (by omega) HE1.out HE2.out)
                have HLK := Lib.hid (fun (w1 : World) (k : Keeps [p] w0 w1) => Slook_any w1 (HLW.out w1 k) A E c (x.take E) ((B1.out.keep0 (k.far (by simp; exact HP.out))).cut hEm) (by omega) N false)
                rw [hres] at HLK
                have v8 : (0 : Int) ≤ (E : Int) := by omega
                clear hfs hls hroom cb0 hres HE1 HE2 hEl
                go_wp2_with fail
                refine HT.out.mono ?_
                rintro e w3 ⟨rfl, hs3, k3⟩
                have S3 := Lib.hid hs3
                have K3 := Lib.hid (HI.out.2.2.1.trans k3)
                clear k3 hs3 HT
                dsimp only [stO]
                go_wp2_with fail
                refine (HLK.out w3 K3.out).mono ?_
                rintro e w4 ⟨rfl, k4⟩
                have HF := Lib.hid (And.intro hEm (And.intro hEN (And.intro (K3.out.trans (k4.mono (by simp))) (S3.out.keep0 k4))))
                clear k4 HLK K3 S3
                go_wp2_with fail
                go_roundg (101 - (i + 1))
                case measure => omega
                case rel => exact ⟨i + 1, E, T2, NM2, rfl, rfl, rfl, by go_num, by omega, rfl, HF⟩
              · have HE2 := Lib.hid (show tellS (stO x E N T NM) = stO x E N T NM from tellS_ne hT)
                have HT := Lib.hid (stake_ok wr B p (stO x a N T NM) _ _ (fun y k => HLW.out y (HI.out.2.2.1.trans k)) hfs HOKS.out XA (E - a) (c - a) _ BS.out (by omega) HE1.out HE2.out)
                have hTb : (T == 0) = false := by simp [hT]
                clear hfs hls hroom cb0 HE1 HE2 hEl
                go_wp2_with fail
                refine HT.out.mono ?_
                rintro e w3 ⟨rfl, hs3, k3⟩
                have HF := Lib.hid (And.intro hEm (And.intro hEN (And.intro (HI.out.2.2.1.trans k3) hs3)))
                clear k3 hs3 HT
                dsimp only [stO]
                go_wp2_with fail
                go_roundg (101 - (i + 1))
                case measure => omega
                case rel => exact ⟨i + 1, E, T, NM, rfl, rfl, rfl, by go_num, by omega, rfl, HF⟩
        · have hilI : ¬ (i : Int) < 100 := by omega
          go_wp2_with fail
          go_meet
          exact ⟨a, T, NM, rfl, rfl, rfl, HI⟩
      · have hltI : ¬ (a : Int) < (m : Int) := by omega
        go_wp2_with fail
        go_meet
        exact ⟨a, T, NM, rfl, rfl, rfl, HI⟩
  case rest =>
    obtain ⟨a, T, NM, rfl, rfl, rfl, HI⟩ := hcut
    have BXR := Lib.hid (show wc.heap[X]? = _ from (HI.out.2.2.1.block X (lt_of_block BX.out) (by have := HP.out; have := lt_of_block BX.out; simp; omega)).trans BX.out)
    have cb1 : wc.cell? ⟨X, 1, none⟩ = some (.bool cl) := cell_of_block BXR.out 1
    have haN := HI.out.2.1
    have ham := HI.out.1
    have v4 : (0 : Int) ≤ (a : Int) := by omega
    have v6 : (a : Int) ≤ (c : Int) := by omega
    have hls : (x.take a).length ≤ a := by rw [List.length_take]; omega
    have HOKS := Lib.hid (show SOk (stO x a N T NM) from ⟨hN1, hN2, by show (x.take a).length ≤ N; omega⟩)
    go_upto_if 119 with fail
    go_cut [10, 11] from 120 to 159 (fun tv nv wx => ∃ (T : Int) (NM : ByteArray) (cl2 : Bool), tv = .int .i64 T ∧ nv = .string NM ∧ Hid (SOk ⟨x.take a, N, cl2, T, NM⟩ ∧ Keeps [p] w0 wx ∧ SnAt wx B p ⟨x.take a, N, cl2, T, NM⟩))
    case first =>
      cases cl with
      | false =>
        go_wp2_with fail
        go_meet
        exact ⟨T, NM, false, rfl, rfl, Lib.hid ⟨HOKS.out, HI.out.2.2.1, HI.out.2.2.2⟩⟩
      | true =>
        have HLK := Lib.hid (fun (w1 : World) (k : Keeps [p] w0 w1) => Slook_any w1 (HLW.out w1 k) A a c (x.take a) ((B1.out.keep0 (k.far (by simp; exact HP.out))).cut ham) (by omega) N true)
        have HNZ := Lib.hid (lookS_closed (x.take a) N)
        obtain ⟨res, hres⟩ : ∃ r, lookS (x.take a) N true = r := ⟨_, rfl⟩
        obtain ⟨T2, NM2⟩ := res
        rw [hres] at HLK HNZ
        by_cases hT : T = 0
        · have HE2 := Lib.hid (show tellS { stO x a N T NM with closed := true } = ⟨x.take a, N, true, T2, NM2⟩ by
            rw [tellS_zero (show ({ stO x a N T NM with closed := true } : SS).told = 0 from hT)]
            show SS.mk (x.take a) N true (lookS (x.take a) N true).1 (lookS (x.take a) N true).2 = _
            rw [hres])
          have HOK2 := Lib.hid (show SOk ⟨x.take a, N, true, T2, NM2⟩ from ⟨hN1, hN2, by show (x.take a).length ≤ N; omega⟩)
          have hz1 : (T2 == 0) = false := by have := HNZ.out; simpa using this
          have hz2 : ¬ T2 = 0 := HNZ.out
          subst hT
          have HC := Lib.hid (sclose_ok wc B p (stO x a N 0 NM) _ (fun y k => HLW.out y (HI.out.2.2.1.trans k)) HI.out.2.2.2 HOKS.out HE2.out)
          clear hres HE2 hls HOKS
          go_wp2_with fail
          refine HC.out.mono ?_
          rintro e w3 ⟨rfl, hs3, k3⟩
          have S3 := Lib.hid hs3
          have K3 := Lib.hid (HI.out.2.2.1.trans k3)
          clear hs3 k3 HC
          dsimp only
          go_wp2_with fail
          refine (HLK.out w3 K3.out).mono ?_
          rintro e w4 ⟨rfl, k4⟩
          have S4 := Lib.hid (S3.out.keep0 k4)
          have K4 := Lib.hid (K3.out.trans (k4.mono (by simp)))
          clear k4 S3 K3 HLK
          dsimp only
          have HT2 := Lib.hid (stake_no w4 B p _ _ 24 (fun y k => HLW.out y (K4.out.trans k)) S4.out HOK2.out none 0 0 [] (BytesV.nil _) (by omega) (if_pos rfl) (by omega))
          go_wp2_with fail
          refine HT2.out.mono ?_
          rintro e w5 ⟨rfl, k5⟩
          have HF := Lib.hid (And.intro HOK2.out (And.intro (K4.out.trans (k5.mono (by simp))) (S4.out.keep0 k5)))
          clear k5 HT2
          go_wp2_with fail
          go_meet
          exact ⟨T2, NM2, true, rfl, rfl, HF⟩
        · have HE2 := Lib.hid (show tellS { stO x a N T NM with closed := true } = ⟨x.take a, N, true, T, NM⟩ from tellS_ne hT)
          have HOK2 := Lib.hid (show SOk ⟨x.take a, N, true, T, NM⟩ from ⟨hN1, hN2, by show (x.take a).length ≤ N; omega⟩)
          have hz1 : (T == 0) = false := by simp [hT]
          have HC := Lib.hid (sclose_ok wc B p (stO x a N T NM) _ (fun y k => HLW.out y (HI.out.2.2.1.trans k)) HI.out.2.2.2 HOKS.out HE2.out)
          clear hres HE2 hls HOKS HLK
          go_wp2_with fail
          refine HC.out.mono ?_
          rintro e w3 ⟨rfl, hs3, k3⟩
          have S4 := Lib.hid hs3
          have K4 := Lib.hid (HI.out.2.2.1.trans k3)
          clear hs3 k3 HC
          dsimp only
          have HT2 := Lib.hid (stake_no w3 B p _ _ 24 (fun y k => HLW.out y (K4.out.trans k)) S4.out HOK2.out none 0 0 [] (BytesV.nil _) (by omega) (if_pos rfl) (by omega))
          go_wp2_with fail
          refine HT2.out.mono ?_
          rintro e w5 ⟨rfl, k5⟩
          have HF := Lib.hid (And.intro HOK2.out (And.intro (K4.out.trans (k5.mono (by simp))) (S4.out.keep0 k5)))
          clear k5 HT2
          go_wp2_with fail
          go_meet
          exact ⟨T, NM, true, rfl, rfl, HF⟩
    case rest =>
      obtain ⟨T, NM, cl2, rfl, rfl, HJ⟩ := hcut
      have HT := Lib.hid (stold_any wc B p _ HJ.out.2.2 HJ.out.1)
      dsimp only at HT
      clear cb1 haN ham v4 v6 hls HOKS HI BXR
      go_wp2_with fail
      refine HT.out.mono ?_
      rintro e w8 ⟨rfl, k8⟩
      have K8 := Lib.hid (HJ.out.2.1.trans (k8.mono (by simp)))
      have HA := Lib.hid (sawake_any w8 (HLW.out w8 (HJ.out.2.1.trans (k8.mono (by simp)))))
      clear k8 HT
      go_wp2_with fail
      refine HA.out.mono ?_
      rintro e w9 ⟨rfl, k9⟩
      have K9 := Lib.hid (show Keeps [] w w9 from K0.out.trans ((K8.out.trans (k9.mono (by simp))).far (by simp; exact HP.out)))
      clear k9 HA
      go_wp2_with fail
      go_ret
      exact ⟨rfl, K9.out⟩
end Go.Proofs.YtpoheemjdieogaaGreatDoor
