/-
  SniffPlays: rows of bytes are told of as the document says. Condition: the library's variables lie as listed; the rows lie in memory.
-/
import Derived.Test.YtpoheemjdieogaaGreatDoorSnT
import Derived.Test.YtpoheemjdieogaaGreatDoorSnZ
import Derived.Test.YtpoheemjdieogaaGreatDoorHttpV
import Derived.Deep.LoopGhost
import Derived.Deep.CutRange
namespace Go.Proofs.YtpoheemjdieogaaGreatDoor
open Go.RowKit Go.ChangeShapes Go.WideShapes Go.ChangeAt Go.Joins Go.Lib
set_option linter.unusedVariables false
set_option linter.unusedSimpArgs false

theorem stake_nil (w : World) (A : Option Addr) (n c : Nat) : Calls Tryz.prog 13 #[.pointer none, .slice A n c] w fun e w' => e = .returned (.tuple #[.int .i64 0, .string ByteArray.empty, .int .i64 2]) ∧ Keeps [] w w' := by
  have hmf : ∀ (fn : Fn) (first cap : Array Value) (w : World), (Instr.makeFunc fn first cap).run Tryz.prog w = .ok (.func fn first cap) w := fun _ _ _ _ => rfl
  obtain ⟨X, hX⟩ : ∃ X, w.heap.size = X := ⟨_, rfl⟩
  obtain ⟨w1, hw1⟩ : ∃ w1, w.alloc (.cells #[.pointer none] 30) = w1 := ⟨_, rfl⟩
  have k1 : Keeps [] w w1 := by rw [← hw1]; exact Keeps.alloc [] w _
  have h1 : w1.heap[X]? = some (.cells #[.pointer none] 30 (0, 0)) := by rw [← hw1, ← hX]; exact (MapKept.heap_alloc w _).1
  obtain ⟨Y, hY⟩ : ∃ Y, w1.heap.size = Y := ⟨_, rfl⟩
  obtain ⟨w2, hw2⟩ : ∃ w2, w1.alloc (.cells #[.slice A n c] 22) = w2 := ⟨_, rfl⟩
  have k2 : Keeps [] w1 w2 := by rw [← hw2]; exact Keeps.alloc [] w1 _
  have h2 : w2.heap[X]? = some (.cells #[.pointer none] 30 (0, 0)) := (k2.block X (lt_of_block h1) (by simp)).trans h1
  have cx : w2.cell? ⟨X, 0, none⟩ = some (.pointer none) := cell_of_block h2 0
  have HK := Lib.hid (k1.trans k2)
  clear k1 h1 k2 h2
  go_enter Tryz.func13, Tryz.ntmps13
  go_wp2_with fail
  refine (anew_nil w2 _).mono ?_
  rintro e w3 ⟨rfl, rfl⟩
  go_wp2_with fail
  go_ret3
  exact ⟨rfl, HK.out⟩
set_option maxRecDepth 100000 in
set_option maxHeartbeats 8000000 in
theorem plays_bad (w : World) (hw : LW w) (most : Int) (hbad : most < 1 ∨ 16384 < most) (A : Option Addr) (n c : Nat) (at_ : Nat) :
    Calls Tryz.prog 8 #[.int .i64 most, .slice A n c, .int .u8 at_] w fun e w' => e = .returned (.bool true) ∧ Keeps [] w w' := by
  have HS := Lib.hid (snew_bad w most hbad)
  have HR := Lib.hid (rnew_bad w most hbad)
  have HA := Lib.hid (sawake_any w hw)
  clear hw hbad
  go_enter Tryz.func8, Tryz.ntmps8
  go_wp2_with fail
  refine HS.out.mono ?_
  rintro e w1 ⟨rfl, h1⟩
  obtain rfl := h1.symm
  clear HS h1
  go_wp2_with fail
  refine HR.out.mono ?_
  rintro e w1 ⟨rfl, h1⟩
  obtain rfl := h1.symm
  clear HR h1
  go_wp2_with fail
  refine HA.out.mono ?_
  rintro e w1 ⟨rfl, k1⟩
  have K1 := Lib.hid k1
  have HT := Lib.hid (stake_nil w1 none 0 0)
  clear HA k1
  go_wp2_with fail
  refine HT.out.mono ?_
  rintro e w2 ⟨rfl, k2⟩
  have K2 := Lib.hid (K1.out.trans k2)
  have HO := Lib.hid (sroom_nil w2)
  clear HT k2
  go_wp2_with fail
  refine HO.out.mono ?_
  rintro e w3 ⟨rfl, h3⟩
  obtain rfl := h3.symm
  clear HO h3
  go_wp2_with fail
  go_ret
  exact ⟨rfl, K2.out⟩
def StopP (p : Prop) : Prop := p
theorem stop_p {p : Prop} (h : StopP p) : p := h
set_option maxRecDepth 1000000 in
set_option maxHeartbeats 16000000 in
theorem plays_walk (w : World) (hw : LW w) (N : Nat) (hN1 : 1 ≤ N) (hN2 : N ≤ 16384) (A : Option Addr) (n c : Nat) (l : List (Value × List UInt8)) (hl : RowsV w A n c l) (at_ : Nat) (hat : at_ < 256) :
    Calls Tryz.prog 8 #[.int .i64 N, .slice A n c, .int .u8 at_] w fun e w' => e = .returned (.bool true) ∧ Keeps [] w w' := by
  have HW := Lib.hid hw
  have HL := Lib.hid hl
  have u3 : IntKind.i64.wrap (at_ : Int) = (at_ : Int) := by rw [wrap_in] <;> omega
  clear hw hl
  go_enter Tryz.func8, Tryz.ntmps8
  go_wp2_with fail
  refine (snew_ok w N hN1 hN2).mono ?_
  rintro e w1 ⟨p, rfl, hs1, hp1, k1⟩
  have S1 := Lib.hid hs1
  have HP1 := Lib.hid hp1
  have K1 := Lib.hid k1
  clear hs1 hp1 k1
  go_wp2_with fail
  refine (rnew_ok w1 N hN1 hN2).mono ?_
  rintro e w2 ⟨q, rfl, hs2, hq2, k2⟩
  have S2 := Lib.hid hs2
  have HQ2 := Lib.hid hq2
  have K2 := Lib.hid k2
  have HAW := Lib.hid (sawake_any w2 (HW.out.keep0 (K1.out.trans k2)))
  clear hs2 hq2 k2
  go_wp2_with fail
  refine HAW.out.mono ?_
  rintro e w3 ⟨rfl, k3⟩
  have K03 := Lib.hid ((K1.out.trans K2.out).trans k3)
  obtain ⟨B, hB⟩ : ∃ B, w3.heap.size = B := ⟨_, rfl⟩
  have hpq : w.heap.size ≤ p ∧ p < q ∧ q < B ∧ w.heap.size ≤ B := by
    have h1 := HP1.out
    have h2 := HQ2.out
    have h3 := lt_of_block S1.out
    have h4 := lt_of_block S2.out
    have h5 := k3.size
    omega
  have hsp : SnB w3 p (.slice none 0 0) ⟨[], N, false, 0, ByteArray.empty⟩ := (k3.block p (by have := lt_of_block S2.out; omega) (by simp)).trans ((K2.out.block p (lt_of_block S1.out) (by simp)).trans S1.out)
  have hsq : RfB w3 q (.slice none 0 0) ⟨[], N, false, 0, ByteArray.empty⟩ := (k3.block q (lt_of_block S2.out) (by simp)).trans S2.out
  have SP := Lib.hid (show SnAt w3 B p ⟨[], N, false, 0, ByteArray.empty⟩ from SnAt.start hsp rfl (by omega) (by omega))
  have SQ := Lib.hid (show RfAt w3 B q ⟨[], N, false, 0, ByteArray.empty⟩ from RfAt.start hsq rfl (by omega) (by omega))
  have PQ := Lib.hid hpq
  have HN := Lib.hid (SOk.new hN1 hN2)
  clear hsp hsq hpq hB k3 HAW S1 S2 HP1 HQ2 K1 K2 w1 w2 hN1 hN2
  go_wp2_with fail
  go_loopg [75] 21 (fun g iv wx => ∃ i : Nat, iv = .int .i64 i ∧ i ≤ 20 ∧ g = 21 - i ∧ Hid (∃ s : SS, SOk s ∧ Keeps [] w wx ∧ SnAt wx B p s ∧ RfAt wx B q s))
  case atStart => exact ⟨0, rfl, by omega, by omega, Lib.hid ⟨_, HN.out, K03.out, SP.out, SQ.out⟩⟩
  case round =>
    obtain ⟨i, rfl, hi, hg, HI⟩ := hrel
    subst hg
    obtain ⟨s0, HE0⟩ : ∃ s0, Hid (SOk s0 ∧ Keeps [] w wr ∧ SnAt wr B p s0 ∧ RfAt wr B q s0) := HI.out.elim fun s h => ⟨s, Lib.hid h⟩
    clear HI SP SQ HN K03
    rcases Nat.lt_or_ge i n with hlt | hge
    · have hltI : (i : Int) < (n : Int) := by omega
      have hi0 : (0 : Int) ≤ (i : Int) := by omega
      obtain ⟨g0, o0, v0, b0, rfl, hc0, hb0⟩ := HL.out.at hlt
      obtain ⟨Ab, cb, rfl, hb0'⟩ := hb0
      have hbb : BytesV w (.slice Ab b0.length cb) b0 := ⟨Ab, cb, rfl, hb0'⟩
      have cc : wr.cell? ⟨g0, o0 + i, none⟩ = some (.slice Ab b0.length cb) := cell_keeps HE0.out.2.1 hc0 (by simp)
      clear hc0 hb0'
      by_cases h20 : i = 20
      · have h20I : ((i : Int) == 20) = true := by rw [h20]; rfl
        clear h20
        go_wp2_with fail
        go_ret
        exact ⟨rfl, HE0.out.2.1⟩
      have h20I : ((i : Int) == 20) = false := by rw [beq_eq_false_iff_ne]; omega
      have hf := hbb.form
      obtain ⟨m, hm⟩ : ∃ m, min b0.length 800 = m := ⟨_, rfl⟩
      have r1 : min (b0.length : Int) 800 = (m : Int) := by omega
      have t1 : (0 : Int) ≤ (m : Int) := by omega
      have t2 : (m : Int) ≤ (cb : Int) := by omega
      obtain ⟨x, hx⟩ : ∃ x, b0.take m = x := ⟨_, rfl⟩
      have BX := Lib.hid (show BytesV w (.slice Ab m cb) x by rw [← hx]; exact hbb.cut (by omega))
      have HXM := Lib.hid (show x.length = m ∧ m ≤ 800 from ⟨(BX.out.form.1).symm, by omega⟩)
      have H20 := Lib.hid h20
      clear hbb hx hm hf h20
      go_upto_if 90 with fail
      go_cut [] from 76 to 217 (fun wx => ∃ s : SS, Hid (SOk s ∧ Keeps [] w wx ∧ SnAt wx B p s ∧ RfAt wx B q s))
      case first =>
        by_cases hia : i = at_
        · have hiaI : ((i : Int) == (at_ : Int)) = true := by rw [hia]; simp
          obtain ⟨s', hs'⟩ : ∃ s', tellS { s0 with closed := true } = s' := ⟨_, rfl⟩
          obtain ⟨T, hT⟩ : ∃ T, s'.told = T := ⟨_, rfl⟩
          obtain ⟨NM, hNM⟩ : ∃ NM, s'.name = NM := ⟨_, rfl⟩
          have HOK := Lib.hid (show SOk s' by rw [← hs']; exact (SOk.close HE0.out.1).tell)
          have HC := Lib.hid (sclose_ok wr B p s0 s' (fun y k => HW.out.far ((HE0.out.2.1.mono (T := [p]) (by simp)).trans k) (by simp; exact PQ.out.1)) HE0.out.2.2.1 HE0.out.1 hs')
          rw [hT, hNM] at HC
          clear hia
          go_wp2_with fail
          refine HC.out.mono ?_
          rintro e w4 ⟨rfl, hp4, k4⟩
          have P4 := Lib.hid hp4
          have K4 := Lib.hid k4
          have HD := Lib.hid (rclose_any w4 B q s0 (HE0.out.2.2.2.keepS k4 (by simp; have := PQ.out; omega) (by simp; have := PQ.out; omega)) HE0.out.1)
          rw [hs', hT, hNM] at HD
          clear hp4 k4 HC hs' hT hNM
          go_wp2_with fail
          refine HD.out.mono ?_
          rintro e w5 ⟨rfl, hq5, k5⟩
          have HF := Lib.hid (show SOk s' ∧ Keeps [] w w5 ∧ SnAt w5 B p s' ∧ RfAt w5 B q s' from ⟨HOK.out,
            (((HE0.out.2.1.mono (T := [p, q]) (by simp)).trans (K4.out.mono (by simp))).trans (k5.mono (by simp))).far (by simp; have := PQ.out; omega),
            P4.out.keepS k5 (by simp; have := PQ.out; omega) (by simp; have := PQ.out; omega), hq5⟩)
          clear hq5 k5 HD
          go_wp2_with fail
          go_meet
          exact ⟨s', HF⟩
        · have hiaI : ((i : Int) == (at_ : Int)) = false := by rw [beq_eq_false_iff_ne]; omega
          clear hia
          go_wp2_with fail
          go_meet
          exact ⟨s0, HE0⟩
      case rest =>
        obtain ⟨s, HE⟩ := hcut
        clear HE0 cc
        have HO0 := Lib.hid (show OwnB (wc.alloc (.cells #[] 5)) wc.heap.size (.slice (some ⟨wc.heap.size, 0, none⟩) 0 0) [] from OwnB.new wc #[] [] rfl (by simp))
        go_wp2_with (at_builtin; apply stop_p)
        unfold StopP
        refine app_W rfl _ _ wc (Keeps.alloc [] wc _) rfl _ [] rfl HO0.out _ x rfl (BX.out.keep0 (HE.out.2.1.alloc' _)) (by have := HXM.out; simp; omega) ?_
        intro v1 w1 ho1 hk1
        rw [List.nil_append] at ho1
        obtain ⟨A1, c1, hv1⟩ := ho1.form
        rw [HXM.out.1] at hv1
        subst hv1
        obtain ⟨J, hJ, hcs⟩ := CellsIn.of_own (show OwnB w1 wc.heap.size (.slice A1 x.length c1) x by rw [HXM.out.1]; exact ho1)
        rw [HXM.out.1] at hcs
        have HJ := Lib.hid hJ
        have HCS := Lib.hid hcs
        have O1 := Lib.hid ho1
        have HK1 := Lib.hid hk1
        have HBC := Lib.hid (show B ≤ wc.heap.size from HE.out.2.2.1.2.1)
        obtain ⟨⟨a1, a2, a3⟩, hans⟩ : ∃ a, (ansS (takeS s x)).1 = a := ⟨_, rfl⟩
        obtain ⟨s', hs'⟩ : ∃ s', nextS s x = s' := ⟨_, rfl⟩
        have HOK := Lib.hid (show SOk s' by rw [← hs']; exact HE.out.1.next x)
        have HT := Lib.hid (stake_round wc w1 B p s (fun y k => HW.out.far (((HE.out.2.1.trans hk1).mono (T := [p]) (by simp)).trans k) (by simp; exact PQ.out.1)) HE.out.2.2.1 hk1 HE.out.1 A1 m c1 x ho1.bytes (by have := HXM.out; omega))
        rw [hans, hs'] at HT
        dsimp only [ansV] at HT
        clear hJ hcs ho1 hk1 HO0
        go_wp2_with fail
        refine HT.out.mono ?_
        rintro e w2 ⟨rfl, k2, hn2⟩
        have K2 := Lib.hid k2
        have HN2 := Lib.hid hn2
        have KP := Lib.hid (show Keeps [p] wc w2 from (HK1.out.mono (by simp)).trans k2)
        have HR := Lib.hid (rtake_round wc w2 B q s [p] HE.out.2.2.2 KP.out (by simp; have := PQ.out; omega) HE.out.1 Ab m cb x (BX.out.keep0 (((HE.out.2.1.mono (T := [p]) (by simp)).trans KP.out).far (by simp; exact PQ.out.1))) (by have := HXM.out; omega))
        rw [hans, hs'] at HR
        dsimp only [ansV] at HR
        clear k2 hn2 HT hans hs'
        go_wp2_with fail
        refine HR.out.mono ?_
        rintro e w4 ⟨rfl, k4, hn4⟩
        have K4 := Lib.hid k4
        have HN4 := Lib.hid hn4
        have KPQ := Lib.hid (show Keeps [p, q] wc w4 from (KP.out.mono (by simp)).trans (k4.mono (by simp)))
        have HC4 := Lib.hid (HCS.out.keeps (show Keeps [p, q] w1 w4 from (K2.out.mono (by simp)).trans (k4.mono (by simp))) (fun y hy => by have h1 := HJ.out y hy; have h2 := HBC.out; have h3 := PQ.out; simp; omega))
        clear k4 hn4 HR HCS
        go_wp2_with fail
        go_loopg [135] (m + 1) (fun g jv wx => ∃ j : Nat, jv = .int .i64 j ∧ j ≤ m ∧ g = m + 1 - j ∧ Hid (Keeps J w4 wx ∧ CellsIn wx J A1 m))
        case atStart => exact ⟨0, rfl, by omega, by omega, Lib.hid ⟨Keeps.refl _ _, HC4.out⟩⟩
        case round =>
          obtain ⟨j, rfl, hj, hg, HI⟩ := hrel
          subst hg
          rcases Nat.lt_or_ge j m with hjm | hjm
          · have hjI : (j : Int) < (m : Int) := by omega
            have hj0 : (0 : Int) ≤ (j : Int) := by omega
            obtain ⟨g1, o1, z, hA1, hg1, hz, hfz⟩ := HI.out.2.at hjm
            subst hA1
            have HG1 := Lib.hid hg1
            have hjb : j ≤ 1000 := by have := HXM.out; omega
            clear hg1
            go_wp2_with fail
            go_roundg (m + 1 - (j + 1))
            case measure => omega
            case rel => exact ⟨j + 1, by simp, by omega, rfl, Lib.hid ⟨HI.out.1.trans ((Keeps.setCell _ _ _).mono (by simp; exact HG1.out)), HI.out.2.set _ _⟩⟩
          · have hjI : ¬ (j : Int) < (m : Int) := by omega
            have S5 := Lib.hid (HN2.out (q :: J) wr ((K4.out.mono (by simp)).trans (HI.out.1.mono (by intro y hy; simp [hy]))) (fun y hy => by
              have h2 := HBC.out
              have h3 := PQ.out
              have h4 := HK1.out.size
              rcases List.mem_cons.1 hy with rfl | hy
              · omega
              · have h1 := HJ.out y hy
                omega))
            have R5 := Lib.hid (HN4.out J wr HI.out.1 (fun y hy => by
              have h1 := HJ.out y hy
              have h2 := HBC.out
              have h3 := PQ.out
              have h4 := K2.out.size
              omega))
            have KW := Lib.hid (show Keeps [] w wr from (((HE.out.2.1.mono (T := p :: q :: J) (by simp)).trans (KPQ.out.mono (by intro y hy; simp at hy; simp; omega))).trans (HI.out.1.mono (by intro y hy; simp [hy]))).far (fun y hy => by
              have h2 := HBC.out
              have h3 := PQ.out
              rcases List.mem_cons.1 hy with rfl | hy
              · omega
              · rcases List.mem_cons.1 hy with rfl | hy
                · omega
                · have h1 := HJ.out y hy
                  omega))
            have HTO := Lib.hid (stold_any wr B p s' S5.out HOK.out)
            obtain ⟨T, hT⟩ : ∃ T, s'.told = T := ⟨_, rfl⟩
            obtain ⟨NM, hNM⟩ : ∃ NM, s'.name = NM := ⟨_, rfl⟩
            rw [hT, hNM] at HTO
            have HTN := Lib.hid (And.intro hT hNM)
            clear HI HC4 HN2 HN4 KPQ KP K2 K4 HK1 O1 HE hT hNM
            go_wp2_with fail
            refine HTO.out.mono ?_
            rintro e w6 ⟨rfl, k6⟩
            have K6 := Lib.hid k6
            have S6 := Lib.hid (S5.out.keep0 k6)
            have HBY := Lib.hid (sbytes_any w6 B p s' S6.out HOK.out)
            clear k6 HTO
            go_wp2_with fail
            refine HBY.out.mono ?_
            rintro e w7 ⟨v7, rfl, ho7, k7⟩
            have R7 := R5.out.keep0 (K6.out.trans k7)
            obtain ⟨_, _, vr, hbr, hor⟩ := R7
            obtain ⟨Ar, cr, hvr⟩ := hor.form
            obtain ⟨A7, c7, hv7⟩ := ho7.form
            obtain ⟨L, hL⟩ : ∃ L, s'.b.length = L := ⟨_, rfl⟩
            obtain ⟨MO, hMO⟩ : ∃ MO, s'.most = MO := ⟨_, rfl⟩
            rw [hL] at hvr hv7
            subst hvr hv7
            have hML : L ≤ MO ∧ MO ≤ 16384 := by
              have h1 := HOK.out.room
              have h2 := HOK.out.most
              omega
            obtain ⟨R0, hR0⟩ : ∃ R0 : Int, ((s'.most - s'.b.length : Nat) : Int) = R0 := ⟨_, rfl⟩
            have v1 : IntKind.i64.wrap ((MO : Int) - (L : Int)) = R0 := by rw [← hR0, hMO, hL, wrap_in] <;> omega
            have v2 : (MO : Int) - (L : Int) = R0 := by rw [← hR0, hMO, hL]; omega
            have v3 : IntKind.i64.wrap R0 = R0 := by rw [← v2, wrap_in] <;> omega
            have HCL := Lib.hid (fun (W : World) (k : Keeps [] w7 W) => (show W.cell? ⟨q, 0, none⟩ = some (.slice Ar L cr) ∧ W.cell? ⟨q, 1, none⟩ = some (.int .i64 (MO : Int)) ∧ W.cell? ⟨q, 3, none⟩ = some (.int .i64 T) ∧ W.cell? ⟨q, 4, none⟩ = some (.string NM) from
              ⟨cell_keeps k (cell_of_block hbr 0) (by simp), cell_keeps k (by rw [← hMO]; exact cell_of_block hbr 1) (by simp), cell_keeps k (by rw [← HTN.out.1]; exact cell_of_block hbr 3) (by simp), cell_keeps k (by rw [← HTN.out.2]; exact cell_of_block hbr 4) (by simp)⟩))
            have HEQ := Lib.hid (fun (W : World) (k : Keeps [] w7 W) => bequal_any W A7 Ar L L c7 cr s'.b (ho7.bytes.keep0 k) (hor.bytes.keep0 k))
            have HRM := Lib.hid (fun (W : World) (k : Keeps [] w7 W) => sroom_any W B p s' (S6.out.keep0 (k7.trans k)) HOK.out)
            rw [hR0] at HRM
            obtain ⟨J7, hJ7, hcs7⟩ := CellsIn.of_own (show OwnB w7 w6.heap.size (.slice A7 s'.b.length c7) s'.b by rw [hL]; exact ho7)
            rw [hL] at hcs7
            have HJ7 := Lib.hid hJ7
            have HC7 := Lib.hid hcs7
            have K7 := Lib.hid k7
            have HL16 := Lib.hid (show L ≤ 16384 by omega)
            have R6 := Lib.hid (R5.out.keep0 K6.out)
            have HLR := Lib.hid (And.intro hL (And.intro hMO hR0))
            clear hbr hor ho7 hL hMO hML hR0 hJ7 hcs7 k7 HBY
            go_wp2_with fail
            go_region_held3 (fun W => Keeps [] w7 W ∧ W.cell? ⟨q, 0, none⟩ = some (.slice Ar L cr) ∧ W.cell? ⟨q, 1, none⟩ = some (.int .i64 (MO : Int)) ∧ W.cell? ⟨q, 3, none⟩ = some (.int .i64 T) ∧ W.cell? ⟨q, 4, none⟩ = some (.string NM))
              (first | exact ⟨(Keeps.refl [] w7).drew', HCL.out _ (Keeps.refl [] w7).drew'⟩ | exact ⟨hk9, HCL.out _ hk9⟩)
              (first
                | (go_at_call 25; with_reducible refine (HEQ.out w7.drew (Keeps.refl [] w7).drew').mono ?_; rintro e w8 ⟨rfl, rfl⟩)
                | (go_at_call 21; with_reducible refine (HRM.out w7.drew (Keeps.refl [] w7).drew').mono ?_; rintro e w9 ⟨rfl, k9⟩; have hk9 : Keeps [] w7 w9 := (Keeps.refl [] w7).drew'.trans k9; clear k9))
            have HK9 := Lib.hid hk9
            have HC9 := Lib.hid (HC7.out.keeps hk9 (by simp))
            clear hk9 HC7 HCL HEQ HRM
            go_wp2_with fail
            clear v1 v2 v3
            go_loopg [207] (L + 1) (fun g jv wx => ∃ j : Nat, jv = .int .i64 j ∧ j ≤ L ∧ g = L + 1 - j ∧ Hid (Keeps J7 w9 wx ∧ CellsIn wx J7 A7 L))
            case atStart => exact ⟨0, rfl, by omega, by omega, Lib.hid ⟨Keeps.refl _ _, HC9.out⟩⟩
            case round =>
              obtain ⟨j2, rfl, hj2, hg2, HI⟩ := hrel
              subst hg2
              rcases Nat.lt_or_ge j2 L with hjm | hjm
              · have hjI : (j2 : Int) < (L : Int) := by omega
                have hj0 : (0 : Int) ≤ (j2 : Int) := by omega
                obtain ⟨g1, o1, z, hA1, hg1, hz, hfz⟩ := HI.out.2.at hjm
                subst hA1
                have HG1 := Lib.hid hg1
                have hjb : j2 ≤ 20000 := by have := HL16.out; omega
                clear hg1
                go_wp2_with fail
                go_roundg (L + 1 - (j2 + 1))
                case measure => omega
                case rel => exact ⟨j2 + 1, by simp, by omega, rfl, Lib.hid ⟨HI.out.1.trans ((Keeps.setCell _ _ _).mono (by simp; exact HG1.out)), HI.out.2.set _ _⟩⟩
              · have hjI : ¬ (j2 : Int) < (L : Int) := by omega
                have kk : Keeps J7 w6 wr := ((K7.out.mono (T := J7) (by simp)).trans (HK9.out.mono (by simp))).trans HI.out.1
                have HF := Lib.hid (show SOk s' ∧ Keeps [] w wr ∧ SnAt wr B p s' ∧ RfAt wr B q s' from ⟨HOK.out,
                  (((KW.out.trans K6.out).mono (T := J7) (by simp)).trans kk).far (fun y hy => by
                    have h1 := HJ7.out y hy
                    have h2 := KW.out.size
                    have h3 := K6.out.size
                    omega),
                  S6.out.chg kk (fun y hy => by
                    have h1 := HJ7.out y hy
                    have h2 := S6.out.2.1
                    have h3 := PQ.out
                    omega),
                  R6.out.chg kk (fun y hy => by
                    have h1 := HJ7.out y hy
                    have h2 := S6.out.2.1
                    have h3 := PQ.out
                    omega)⟩)
                have hib : i ≤ 100 := by omega
                clear kk HI HC9
                go_wp2_with fail
                go_roundg (21 - (i + 1))
                case measure => have := H20.out; omega
                case rel => exact ⟨i + 1, by simp, by have := H20.out; omega, rfl, Lib.hid ⟨s', HF.out⟩⟩
    · have hltI : ¬ (i : Int) < (n : Int) := by omega
      go_wp2_with fail
      go_ret
      exact ⟨rfl, HE0.out.2.1⟩
set_option maxRecDepth 100000 in
theorem sniffPlays_typed {H : Type} (enc : TypeId × Value → H) (W : World) (base : Nat) {v0 v1 v2 : Value} {d0 d1 d2 : DataW H} {p0 p1 p2 : List MemPlace}
    (o0 : Value.okWide Tryz.prog W .any base 3 v0) (o1 : Value.okWide Tryz.prog W .any base 48 v1) (o2 : Value.okWide Tryz.prog W .any base 5 v2)
    (h0 : DataW.Trod enc Tryz.prog W 0 (fun _ => true) true 3 v0 d0 p0) (h1 : DataW.Trod enc Tryz.prog W 0 (fun _ => true) true 48 v1 d1 p1) (h2 : DataW.Trod enc Tryz.prog W 0 (fun _ => true) true 5 v2 d2 p2) (hL : LW W) :
    Calls Tryz.prog 8 #[v0, v1, v2] W fun e W' => e = .returned (.bool true) ∧ Below W.heap.size W W' := by
  obtain ⟨most, rfl⟩ := okWide_int Tryz.underlying3 o0
  obtain ⟨A1, n1, c1, l1, rfl, hb1⟩ := open_rows o1 h1
  obtain ⟨at_, rfl, hat⟩ := open_u8 o2 h2
  by_cases hbad : most < 1 ∨ 16384 < most
  · exact (plays_bad W hL most hbad A1 n1 c1 at_).mono fun e W' ⟨he, k⟩ => ⟨he, k.below (Nat.le_refl _) (by simp)⟩
  · obtain ⟨N, rfl⟩ : ∃ N : Nat, most = (N : Int) := ⟨most.toNat, by omega⟩
    exact (plays_walk W hL N (by omega) (by omega) A1 n1 c1 l1 hb1 at_ hat).mono fun e W' ⟨he, k⟩ => ⟨he, k.below (Nat.le_refl _) (by simp)⟩
end Go.Proofs.YtpoheemjdieogaaGreatDoor
