/-
  ReasmPlays, walked: a buffer under any calls tells what the document's tells. Condition: the arguments are in the ranges of their kinds; the calls lie in memory.
-/
import Derived.Test.YtknlcieceghaiaaReasmI
import Derived.Test.YtknlcieceghaiaaReasmStream
import Derived.HandedShaped
import Derived.Deep.LoopGhost
import Derived.Deep.CutRange
import Derived.Deep.CutBlock
import Derived.Deep.RegionHeldLaw
import Derived.Lib.SmallJoins
namespace Go.Proofs.Ytknlcieceghaiaa
open Go.RowKit
set_option linter.unusedVariables false
set_option linter.unusedSimpArgs false

def StopP (p : Prop) : Prop := p
theorem stop_p {p : Prop} (h : StopP p) : p := h
theorem BytesV.cutP {w : World} {A : Option Addr} {n c m : Nat} {l : List UInt8} (h : BytesV w (.slice A n c) l) (hm : m ≤ n) : BytesV w (.slice A m c) (l.take m) := by
  obtain ⟨hn, hc, hx⟩ := h.form
  have hl : (l.take m).length = m := by rw [List.length_take]; omega
  refine ⟨A, c, by rw [hl], by omega, hx, fun hp => ?_⟩
  obtain ⟨g, o, e, hcell⟩ := h.get (by omega)
  refine ⟨g, o, e, fun i x hx => hcell i x ?_⟩
  rw [List.getElem?_take] at hx
  split at hx
  · exact hx
  · cases hx
theorem BytesV.constP (w : World) (vs : Array Value) (l : List UInt8) (z : Nat × Nat) (h : vs.toList = l.map u8V) (hl : l.length ≤ maxLen) : BytesV (w.alloc (.cells vs 5 z)) (.slice (some ⟨w.heap.size, 0, none⟩) l.length l.length) l := by
  refine ⟨_, _, rfl, Nat.le_refl _, hl, fun _ => ⟨_, _, rfl, fun i x hx => ?_⟩⟩
  rw [cell_of_block (MapKept.heap_alloc w _).1 (0 + i), Nat.zero_add, ← Array.getElem?_toList, h, List.getElem?_map, hx]
  rfl
theorem BytesV.rowJ {w : World} {v : Value} {l : List UInt8} (h : BytesV w v l) : ∃ J, RowJ u8V w J v l := by
  obtain ⟨A, c, rfl, h1, h2, h3⟩ := h
  by_cases hp : 0 < l.length
  · obtain ⟨g, o, e, hc⟩ := h3 hp
    exact ⟨[g], A, c, rfl, h1, h2, fun _ => ⟨g, o, e, by simp, hc⟩⟩
  · exact ⟨[], A, c, rfl, h1, h2, fun h => absurd h hp⟩
/-- a row of calls -/
def OpsV (w : World) (A : Option Addr) (n : Nat) : Prop := 0 < n → ∃ g o, A = some ⟨g, o, none⟩ ∧ ∀ i, i < n → ∃ (what at_ : Int) (v : Value) (b : List UInt8), -2147483648 ≤ at_ ∧ at_ ≤ 2147483647 ∧ w.cell? ⟨g, o + i * 3, none⟩ = some (.int .i64 what) ∧ w.cell? ⟨g, o + i * 3 + 1, none⟩ = some (.int .i32 at_) ∧ w.cell? ⟨g, o + i * 3 + 2, none⟩ = some v ∧ BytesV w v b
set_option maxRecDepth 100000 in
theorem plays_bad (w : World) (next n : Int) (hbad : n < 0 ∨ 16384 < n) (A : Option Addr) (m c : Nat) :
    Calls Try.prog 4 #[.int .u32 next, .int .i64 n, .slice A m c] w fun e w' => e = .returned (.bool true) ∧ Keeps [] w w' := by
  have HS := Lib.hid (bnew_bad w next n hbad)
  have HR := Lib.hid (rnew_bad w next n hbad)
  have HW := Lib.hid (wakes_any w)
  clear hbad
  go_enter Try.func4, Try.ntmps4
  go_wp2_with fail
  refine HS.out.mono ?_
  rintro e w1 ⟨rfl, h1⟩
  obtain rfl := h1
  clear HS
  go_wp2_with fail
  refine HR.out.mono ?_
  rintro e w1 ⟨rfl, h1⟩
  obtain rfl := h1.symm
  clear HR h1
  go_wp2_with fail
  refine HW.out.mono ?_
  rintro e w2 ⟨rfl, k2⟩
  have K2 := Lib.hid (Below.keeps k2)
  clear k2 HW
  go_wp2_with fail
  go_ret
  exact ⟨rfl, K2.out⟩
theorem st_start {w w1 w2 : World} {next : Int} (hu : U32 next) {n q b mb : Nat} (hn : n ≤ 16384) {J : List Nat} {v1 v2 : Value} (hb : BuffAt w1 b mb ⟨next, 0, n, []⟩) (k1 : Keeps [] w w1) (hb1 : w.heap.size ≤ b) (hb2 : w.heap.size ≤ mb) (hr : RbAt w2 q J (RB.new next n) v1 v2) (hJ : ∀ y ∈ J, w1.heap.size ≤ y ∧ y < w2.heap.size) (hq : w1.heap.size ≤ q) (hqJ : q ∉ J) (k2 : Keeps [] w1 w2) : St w w2 q b mb J ⟨next, 0, n, []⟩ (RB.new next n) v1 v2 := by
  have hbl := hb.lt
  have hz := k1.size
  refine ⟨k1.trans k2, hb.keep k2 (by simp) (by simp), hr, Sim.new hu n, new_okB hu hn, hqJ, fun hm => ?_, fun hm => ?_, by omega, by omega, ⟨hb1, hb2, by omega⟩, fun y hy => ?_⟩
  · have := hJ b hm; omega
  · have := hJ mb hm; omega
  · have := hJ y hy; omega
set_option maxRecDepth 1000000 in
set_option maxHeartbeats 32000000 in
theorem plays_walk (w : World) (next : Int) (hu : U32 next) (N : Nat) (hN : N ≤ 16384) (A : Option Addr) (n c : Nat) (hops : OpsV w A n) :
    Calls Try.prog 4 #[.int .u32 next, .int .i64 N, .slice A n c] w fun e w' => e = .returned (.bool true) ∧ Keeps [] w w' := by
  have HOPS := Lib.hid hops
  have HU := Lib.hid hu
  clear hops hu
  go_enter Try.func4, Try.ntmps4
  go_wp2_with fail
  refine (bnew_ok w next N (by omega) (by omega)).mono ?_
  rintro e w1 ⟨b, mb, rfl, hb1, k1, hb2, hb3⟩
  have HB1 := Lib.hid (And.intro hb1 (And.intro k1 (And.intro hb2 hb3)))
  clear hb1 k1 hb2 hb3
  go_wp2_with fail
  refine (rnew_ok w1 next N hN).mono ?_
  rintro e w2 ⟨q, J, v1, v2, rfl, hr, hJ, hq, hqJ, k2⟩
  have HST := Lib.hid (st_start HU.out hN HB1.out.1 HB1.out.2.1 HB1.out.2.2.1 HB1.out.2.2.2 hr hJ hq hqJ k2)
  clear hr hJ hq hqJ k2 HB1 w1
  go_wp2_with fail
  go_loopg [7, 11] 61 (fun g bv iv wx => ∃ (i b' : Nat), bv = .pointer (some ⟨b', 0, none⟩) ∧ iv = .int .i64 i ∧ i ≤ 60 ∧ g = 61 - i ∧ Hid (∃ mb' J' s r v1' v2', St w wx q b' mb' J' s r v1' v2'))
  case atStart => exact ⟨0, b, rfl, rfl, by omega, by omega, Lib.hid ⟨_, _, _, _, _, _, HST.out⟩⟩
  case round =>
    obtain ⟨i, b', rfl, rfl, hi, hg, HI⟩ := hrel
    subst hg
    obtain ⟨mb', J', s, r, v1', v2', HE⟩ : ∃ mb' J' s r v1' v2', Hid (St w wr q b' mb' J' s r v1' v2') := by
      obtain ⟨mb', J', s, r, v1', v2', h⟩ := HI.out
      exact ⟨mb', J', s, r, v1', v2', Lib.hid h⟩
    clear HI HST
    have hi60 : i ≤ 100 := by omega
    by_cases hin : i < n ∧ i < 60
    · have h1 : (i : Int) < (n : Int) := by omega
      have h2 : (i : Int) < 60 := by omega
      have hi0 : (0 : Int) ≤ (i : Int) := by omega
      obtain ⟨g0, o0, hA, hcell⟩ := HOPS.out (by omega)
      subst hA
      obtain ⟨what, at_, vd, data0, ha1, ha2, p1, p2, p3, hbd⟩ := hcell i hin.1
      obtain ⟨Ad, cd, rfl, hbd'⟩ := hbd
      have hbb : BytesV w (.slice Ad data0.length cd) data0 := ⟨Ad, cd, rfl, hbd'⟩
      have q1 : wr.cell? ⟨g0, o0 + i * 3, none⟩ = some (.int .i64 what) := cell_keeps HE.out.k p1 (by simp)
      have q2 : wr.cell? ⟨g0, o0 + i * 3 + 1, none⟩ = some (.int .i32 at_) := cell_keeps HE.out.k p2 (by simp)
      have q3 : wr.cell? ⟨g0, o0 + i * 3 + 2, none⟩ = some (.slice Ad data0.length cd) := cell_keeps HE.out.k p3 (by simp)
      have HIN := Lib.hid hin
      have hf := hbb.form
      obtain ⟨m, hm⟩ : ∃ m, min data0.length 2000 = m := ⟨_, rfl⟩
      have r1 : min (data0.length : Int) 2000 = (m : Int) := by omega
      have t1 : (0 : Int) ≤ (m : Int) := by omega
      have t2 : (m : Int) ≤ (cd : Int) := by omega
      obtain ⟨x, hx⟩ : ∃ x, data0.take m = x := ⟨_, rfl⟩
      have BX := Lib.hid (show BytesV w (.slice Ad m cd) x by rw [← hx]; exact hbb.cutP (by omega))
      have HXM := Lib.hid (show x.length = m ∧ m ≤ 2000 from ⟨(BX.out.form.1).symm, by omega⟩)
      clear hbb hx hm hf
      clear p1 p2 p3 hcell hbd' hin
      go_wp2_with (at_builtin; apply stop_p)
      unfold StopP
      obtain ⟨JB, hJB⟩ := (BX.out.keep0 (HE.out.k.alloc' (.cells #[.int .i64 what, .int .i32 at_, .slice Ad data0.length cd] 47))).rowJ
      refine app_row (enc := u8V) rfl _ _ 22 5 (.int .u8 0) rfl Try.underlying22 Try.infoU8 rfl (fun _ => rfl) rfl _ JB x rfl hJB (by have := HXM.out; omega) ?_
      intro v3 w5 hv3 hk5
      obtain ⟨A3, c3, hv3f, hr3⟩ := HasRow.of_app hv3
      rw [HXM.out.1] at hv3f hr3
      subst hv3f
      have kA : Keeps [] wr (wr.alloc (.cells #[.int .i64 what, .int .i32 at_, .slice Ad data0.length cd] 47)) := Keeps.alloc [] wr _
      have HR3 := Lib.hid (show HasRow u8V 5 w5 wr.heap.size A3 m c3 x from ⟨hr3.1, hr3.2.1, hr3.2.2.1, fun hp => by
        obtain ⟨g, e1, e2, e3⟩ := hr3.2.2.2 hp
        exact ⟨g, e1, Nat.le_trans kA.size e2, e3⟩⟩)
      have HE5 := Lib.hid (HE.out.keep0 (kA.trans hk5))
      have hbX := (hk5.block wr.heap.size (by simp) (by simp)).trans ((MapKept.heap_alloc wr (.cells #[.int .i64 what, .int .i32 at_, .slice Ad data0.length cd] 47)).1)
      have HBX := Lib.hid hbX
      have y0 : w5.cell? ⟨wr.heap.size, 0, none⟩ = some (.int .i64 what) := cell_of_block hbX 0
      clear hv3 hr3 hk5 hJB kA q1 q2 q3 r1 t1 t2 hbX BX
      go_upto_block 2 with fail
      go_cut [7, 14] from 46 to 197 (fun bv rv wx => ∃ b2 : Nat, bv = .pointer (some ⟨b2, 0, none⟩) ∧ rv = .bool true ∧ Hid (∃ mb J s r v1 v2, St w wx q b2 mb J s r v1 v2))
      case first =>
        by_cases hp : what = 0 ∨ what = 1 ∨ what = 2 ∨ what = 3 ∨ what = 7
        · rcases hp with rfl | rfl | rfl | rfl | rfl
          · as_aux_lemma =>
            have y1 : w5.cell? ⟨wr.heap.size, 1, none⟩ = some (.int .i32 at_) := cell_of_block HBX.out 1
            have hrb5 := HE5.out.rb
            have hau := (HE5.out.sim.ok HE5.out.ok).at_
            obtain ⟨at0, hat0⟩ : ∃ a, r.at_ = a := ⟨_, rfl⟩
            have c0 : w5.drew.cell? ⟨q, 0, none⟩ = some (.int .u32 at0) := by rw [← hat0]; exact hrb5.c0
            have c1 : w5.drew.cell? ⟨wr.heap.size, 1, none⟩ = some (.int .i32 at_) := y1
            obtain ⟨D32, hD⟩ : ∃ D, at_ % 4294967296 = D := ⟨_, rfl⟩
            have x1 : IntKind.u32.wrap at_ = D32 := by rw [← hD]; simp [IntKind.wrap, IntKind.signed, IntKind.bits]
            have x2 : IntKind.u32.wrap (at0 + D32) = addI at0 D32 := by simp [IntKind.wrap, IntKind.signed, IntKind.bits, addI]
            have hua : U32 (addI at0 D32) := addI_bd _ _
            have y0d : w5.drew.cell? ⟨wr.heap.size, 0, none⟩ = some (.int .i64 0) := y0
            have HSD := Lib.hid (HE5.out.keep0 (Keeps.drew [] w5))
            have HRD := Lib.hid (HR3.out.keep (Keeps.drew [] w5) (by simp))
            obtain ⟨JR, hJR, hrow⟩ := HRD.out.row
            have hbl := HE.out.bu.lt
            have hqe := lt_of_block HE.out.rb.head
            have HP := Lib.hid (st_put HSD.out (addI at0 D32) hua A3 m c3 x hrow.bytes (fun w2 k => (hrow.keep k (fun y hy => by have := hJR y hy; simp; omega)).bytes) (by have := HXM.out; omega))
            obtain ⟨JC, hJC, hcin⟩ := CellsIn.of_row HRD.out
            have HJC := Lib.hid hJC
            have HCI := Lib.hid hcin
            have HCC := Lib.hid (And.intro c0 c1)
            have HEB := Lib.hid (And.intro hbl hqe)
            clear hrb5 hau hat0 c0 c1 hD hua hJR hrow hbl hqe hJC hcin y0 y1
            go_wp2_with fail
            go_region_held3 (fun W => W.cell? ⟨q, 0, none⟩ = some (.int .u32 at0) ∧ W.cell? ⟨wr.heap.size, 1, none⟩ = some (.int .i32 at_))
              (exact HCC.out)
              (fail)
            have y1d : w5.drew.cell? ⟨wr.heap.size, 1, none⟩ = some (.int .i32 at_) := HCC.out.2
            go_wp2_with fail
            refine HP.out.mono ?_
            rintro e w6 ⟨n1, n2, rfl, hrb6, hcall⟩
            have HCALL := Lib.hid hcall
            clear hrb6 hcall HP y0d y1d x1 x2
            go_wp2_with fail
            refine HCALL.out.mono ?_
            rintro e w7 ⟨rfl, k7, mb7, J7, s7, r7, v17, v27, hst, hj7, hm7⟩
            have HS7 := Lib.hid hst
            have HK7 := Lib.hid k7
            have HFAR := Lib.hid (show ∀ y ∈ JC, y ≠ q ∧ y ≠ b' ∧ y ≠ mb7 ∧ y ∉ J7 ∧ w.heap.size ≤ y from fun y hy => by
              have h1 := HJC.out y hy
              have h2 := HEB.out
              have h3 := HE.out.fb
              have h4 := HE.out.bu.lt
              have h5 := HE.out.k.size
              refine ⟨by omega, by omega, ?_, fun hm => ?_, by omega⟩
              · rcases hm7 with e | e
                · omega
                · omega
              · rcases hj7 y hm with h6 | h6
                · have := HE.out.fj y h6
                  omega
                · omega)
            have HC7 := Lib.hid (HCI.out.keeps k7 (fun y hy => by have := HFAR.out y hy; simp; omega))
            clear hst k7 hj7 hm7 HCALL HCI
            go_wp2_with fail
            go_loopg [20] (m + 1) (fun gk kv wx => ∃ k : Nat, kv = .int .i64 k ∧ k ≤ m ∧ gk = m + 1 - k ∧ Hid (Keeps JC w7 wx ∧ CellsIn wx JC A3 m))
            case atStart => exact ⟨0, rfl, Nat.zero_le _, rfl, Lib.hid ⟨Keeps.refl _ _, HC7.out⟩⟩
            case round =>
              obtain ⟨k, rfl, hk, hg, HI⟩ := hrel
              subst hg
              rcases Nat.lt_or_ge k m with hkm | hkm
              · have hkI : (k : Int) < (m : Int) := by omega
                have hk0 : (0 : Int) ≤ (k : Int) := by omega
                obtain ⟨g1, o1, z, hA1, hg1, hz, hfz⟩ := HI.out.2.at hkm
                subst hA1
                have HG1 := Lib.hid hg1
                have hkb : k ≤ 2000 := by have := HXM.out; omega
                clear hg1
                go_wp2_with fail
                go_roundg (m + 1 - (k + 1))
                case measure => omega
                case rel => exact ⟨k + 1, by simp, by omega, rfl, Lib.hid ⟨HI.out.1.trans ((Keeps.setCell _ _ _).mono (by simp; exact HG1.out)), HI.out.2.set _ _⟩⟩
              · have hkI : ¬ (k : Int) < (m : Int) := by omega
                have HF := Lib.hid (HS7.out.chg HI.out.1 HFAR.out)
                go_wp2_with fail
                go_meet
                exact ⟨b', rfl, by first | rfl | simp, Lib.hid ⟨_, _, _, _, _, _, HF.out⟩⟩
          · as_aux_lemma =>
            have y1 : w5.cell? ⟨wr.heap.size, 1, none⟩ = some (.int .i32 at_) := cell_of_block HBX.out 1
            have hrb5 := HE5.out.rb
            have hau := (HE5.out.sim.ok HE5.out.ok).at_
            obtain ⟨at0, hat0⟩ : ∃ a, r.at_ = a := ⟨_, rfl⟩
            have c0 : w5.drew.cell? ⟨q, 0, none⟩ = some (.int .u32 at0) := by rw [← hat0]; exact hrb5.c0
            have c1 : w5.drew.cell? ⟨wr.heap.size, 1, none⟩ = some (.int .i32 at_) := y1
            obtain ⟨D32, hD⟩ : ∃ D, at_ % 4294967296 = D := ⟨_, rfl⟩
            have x1 : IntKind.u32.wrap at_ = D32 := by rw [← hD]; simp [IntKind.wrap, IntKind.signed, IntKind.bits]
            have x2 : IntKind.u32.wrap (at0 + D32) = addI at0 D32 := by simp [IntKind.wrap, IntKind.signed, IntKind.bits, addI]
            have hua : U32 (addI at0 D32) := addI_bd _ _
            have y0d : w5.drew.cell? ⟨wr.heap.size, 0, none⟩ = some (.int .i64 1) := y0
            have HSD := Lib.hid (HE5.out.keep0 (Keeps.drew [] w5))
            have HRD := Lib.hid (HR3.out.keep (Keeps.drew [] w5) (by simp))
            obtain ⟨JR, hJR, hrow⟩ := HRD.out.row
            have hbl := HE.out.bu.lt
            have hqe := lt_of_block HE.out.rb.head
            have HP := Lib.hid (st_put HSD.out (addI at0 D32) hua A3 m c3 x hrow.bytes (fun w2 k => (hrow.keep k (fun y hy => by have := hJR y hy; simp; omega)).bytes) (by have := HXM.out; omega))
            obtain ⟨JC, hJC, hcin⟩ := CellsIn.of_row HRD.out
            have HJC := Lib.hid hJC
            have HCI := Lib.hid hcin
            have HCC := Lib.hid (And.intro c0 c1)
            have HEB := Lib.hid (And.intro hbl hqe)
            clear hrb5 hau hat0 c0 c1 hD hua hJR hrow hbl hqe hJC hcin y0 y1
            go_wp2_with fail
            go_region_held3 (fun W => W.cell? ⟨q, 0, none⟩ = some (.int .u32 at0) ∧ W.cell? ⟨wr.heap.size, 1, none⟩ = some (.int .i32 at_))
              (exact HCC.out)
              (fail)
            have y1d : w5.drew.cell? ⟨wr.heap.size, 1, none⟩ = some (.int .i32 at_) := HCC.out.2
            go_wp2_with fail
            refine HP.out.mono ?_
            rintro e w6 ⟨n1, n2, rfl, hrb6, hcall⟩
            have HCALL := Lib.hid hcall
            clear hrb6 hcall HP y0d y1d x1 x2
            go_wp2_with fail
            refine HCALL.out.mono ?_
            rintro e w7 ⟨rfl, k7, mb7, J7, s7, r7, v17, v27, hst, hj7, hm7⟩
            have HS7 := Lib.hid hst
            have HK7 := Lib.hid k7
            have HFAR := Lib.hid (show ∀ y ∈ JC, y ≠ q ∧ y ≠ b' ∧ y ≠ mb7 ∧ y ∉ J7 ∧ w.heap.size ≤ y from fun y hy => by
              have h1 := HJC.out y hy
              have h2 := HEB.out
              have h3 := HE.out.fb
              have h4 := HE.out.bu.lt
              have h5 := HE.out.k.size
              refine ⟨by omega, by omega, ?_, fun hm => ?_, by omega⟩
              · rcases hm7 with e | e
                · omega
                · omega
              · rcases hj7 y hm with h6 | h6
                · have := HE.out.fj y h6
                  omega
                · omega)
            have HC7 := Lib.hid (HCI.out.keeps k7 (fun y hy => by have := HFAR.out y hy; simp; omega))
            clear hst k7 hj7 hm7 HCALL HCI
            go_wp2_with fail
            go_loopg [20] (m + 1) (fun gk kv wx => ∃ k : Nat, kv = .int .i64 k ∧ k ≤ m ∧ gk = m + 1 - k ∧ Hid (Keeps JC w7 wx ∧ CellsIn wx JC A3 m))
            case atStart => exact ⟨0, rfl, Nat.zero_le _, rfl, Lib.hid ⟨Keeps.refl _ _, HC7.out⟩⟩
            case round =>
              obtain ⟨k, rfl, hk, hg, HI⟩ := hrel
              subst hg
              rcases Nat.lt_or_ge k m with hkm | hkm
              · have hkI : (k : Int) < (m : Int) := by omega
                have hk0 : (0 : Int) ≤ (k : Int) := by omega
                obtain ⟨g1, o1, z, hA1, hg1, hz, hfz⟩ := HI.out.2.at hkm
                subst hA1
                have HG1 := Lib.hid hg1
                have hkb : k ≤ 2000 := by have := HXM.out; omega
                clear hg1
                go_wp2_with fail
                go_roundg (m + 1 - (k + 1))
                case measure => omega
                case rel => exact ⟨k + 1, by simp, by omega, rfl, Lib.hid ⟨HI.out.1.trans ((Keeps.setCell _ _ _).mono (by simp; exact HG1.out)), HI.out.2.set _ _⟩⟩
              · have hkI : ¬ (k : Int) < (m : Int) := by omega
                have HF := Lib.hid (HS7.out.chg HI.out.1 HFAR.out)
                go_wp2_with fail
                go_meet
                exact ⟨b', rfl, by first | rfl | simp, Lib.hid ⟨_, _, _, _, _, _, HF.out⟩⟩
          · as_aux_lemma =>
            have y1 : w5.cell? ⟨wr.heap.size, 1, none⟩ = some (.int .i32 at_) := cell_of_block HBX.out 1
            have hrb5 := HE5.out.rb
            have hau := (HE5.out.sim.ok HE5.out.ok).at_
            obtain ⟨at0, hat0⟩ : ∃ a, r.at_ = a := ⟨_, rfl⟩
            have c0 : w5.drew.cell? ⟨q, 0, none⟩ = some (.int .u32 at0) := by rw [← hat0]; exact hrb5.c0
            have c1 : w5.drew.cell? ⟨wr.heap.size, 1, none⟩ = some (.int .i32 at_) := y1
            obtain ⟨D32, hD⟩ : ∃ D, at_ % 4294967296 = D := ⟨_, rfl⟩
            have x1 : IntKind.u32.wrap at_ = D32 := by rw [← hD]; simp [IntKind.wrap, IntKind.signed, IntKind.bits]
            have x2 : IntKind.u32.wrap (at0 + D32) = addI at0 D32 := by simp [IntKind.wrap, IntKind.signed, IntKind.bits, addI]
            have hua : U32 (addI at0 D32) := addI_bd _ _
            have y0d : w5.drew.cell? ⟨wr.heap.size, 0, none⟩ = some (.int .i64 2) := y0
            have HSD := Lib.hid (HE5.out.keep0 (Keeps.drew [] w5))
            have HRD := Lib.hid (HR3.out.keep (Keeps.drew [] w5) (by simp))
            obtain ⟨JR, hJR, hrow⟩ := HRD.out.row
            have hbl := HE.out.bu.lt
            have hqe := lt_of_block HE.out.rb.head
            have HP := Lib.hid (st_put HSD.out (addI at0 D32) hua A3 m c3 x hrow.bytes (fun w2 k => (hrow.keep k (fun y hy => by have := hJR y hy; simp; omega)).bytes) (by have := HXM.out; omega))
            obtain ⟨JC, hJC, hcin⟩ := CellsIn.of_row HRD.out
            have HJC := Lib.hid hJC
            have HCI := Lib.hid hcin
            have HCC := Lib.hid (And.intro c0 c1)
            have HEB := Lib.hid (And.intro hbl hqe)
            clear hrb5 hau hat0 c0 c1 hD hua hJR hrow hbl hqe hJC hcin y0 y1
            go_wp2_with fail
            go_region_held3 (fun W => W.cell? ⟨q, 0, none⟩ = some (.int .u32 at0) ∧ W.cell? ⟨wr.heap.size, 1, none⟩ = some (.int .i32 at_))
              (exact HCC.out)
              (fail)
            have y1d : w5.drew.cell? ⟨wr.heap.size, 1, none⟩ = some (.int .i32 at_) := HCC.out.2
            go_wp2_with fail
            refine HP.out.mono ?_
            rintro e w6 ⟨n1, n2, rfl, hrb6, hcall⟩
            have HCALL := Lib.hid hcall
            clear hrb6 hcall HP y0d y1d x1 x2
            go_wp2_with fail
            refine HCALL.out.mono ?_
            rintro e w7 ⟨rfl, k7, mb7, J7, s7, r7, v17, v27, hst, hj7, hm7⟩
            have HS7 := Lib.hid hst
            have HK7 := Lib.hid k7
            have HFAR := Lib.hid (show ∀ y ∈ JC, y ≠ q ∧ y ≠ b' ∧ y ≠ mb7 ∧ y ∉ J7 ∧ w.heap.size ≤ y from fun y hy => by
              have h1 := HJC.out y hy
              have h2 := HEB.out
              have h3 := HE.out.fb
              have h4 := HE.out.bu.lt
              have h5 := HE.out.k.size
              refine ⟨by omega, by omega, ?_, fun hm => ?_, by omega⟩
              · rcases hm7 with e | e
                · omega
                · omega
              · rcases hj7 y hm with h6 | h6
                · have := HE.out.fj y h6
                  omega
                · omega)
            have HC7 := Lib.hid (HCI.out.keeps k7 (fun y hy => by have := HFAR.out y hy; simp; omega))
            clear hst k7 hj7 hm7 HCALL HCI
            go_wp2_with fail
            go_loopg [20] (m + 1) (fun gk kv wx => ∃ k : Nat, kv = .int .i64 k ∧ k ≤ m ∧ gk = m + 1 - k ∧ Hid (Keeps JC w7 wx ∧ CellsIn wx JC A3 m))
            case atStart => exact ⟨0, rfl, Nat.zero_le _, rfl, Lib.hid ⟨Keeps.refl _ _, HC7.out⟩⟩
            case round =>
              obtain ⟨k, rfl, hk, hg, HI⟩ := hrel
              subst hg
              rcases Nat.lt_or_ge k m with hkm | hkm
              · have hkI : (k : Int) < (m : Int) := by omega
                have hk0 : (0 : Int) ≤ (k : Int) := by omega
                obtain ⟨g1, o1, z, hA1, hg1, hz, hfz⟩ := HI.out.2.at hkm
                subst hA1
                have HG1 := Lib.hid hg1
                have hkb : k ≤ 2000 := by have := HXM.out; omega
                clear hg1
                go_wp2_with fail
                go_roundg (m + 1 - (k + 1))
                case measure => omega
                case rel => exact ⟨k + 1, by simp, by omega, rfl, Lib.hid ⟨HI.out.1.trans ((Keeps.setCell _ _ _).mono (by simp; exact HG1.out)), HI.out.2.set _ _⟩⟩
              · have hkI : ¬ (k : Int) < (m : Int) := by omega
                have HF := Lib.hid (HS7.out.chg HI.out.1 HFAR.out)
                go_wp2_with fail
                go_meet
                exact ⟨b', rfl, by first | rfl | simp, Lib.hid ⟨_, _, _, _, _, _, HF.out⟩⟩
          · as_aux_lemma =>
            have y1 : w5.cell? ⟨wr.heap.size, 1, none⟩ = some (.int .i32 at_) := cell_of_block HBX.out 1
            have hrb5 := HE5.out.rb
            have hau := (HE5.out.sim.ok HE5.out.ok).at_
            obtain ⟨at0, hat0⟩ : ∃ a, r.at_ = a := ⟨_, rfl⟩
            have c0 : w5.drew.cell? ⟨q, 0, none⟩ = some (.int .u32 at0) := by rw [← hat0]; exact hrb5.c0
            have c1 : w5.drew.cell? ⟨wr.heap.size, 1, none⟩ = some (.int .i32 at_) := y1
            obtain ⟨D32, hD⟩ : ∃ D, at_ % 4294967296 = D := ⟨_, rfl⟩
            have x1 : IntKind.u32.wrap at_ = D32 := by rw [← hD]; simp [IntKind.wrap, IntKind.signed, IntKind.bits]
            have x2 : IntKind.u32.wrap (at0 + D32) = addI at0 D32 := by simp [IntKind.wrap, IntKind.signed, IntKind.bits, addI]
            have hua : U32 (addI at0 D32) := addI_bd _ _
            have y0d : w5.drew.cell? ⟨wr.heap.size, 0, none⟩ = some (.int .i64 3) := y0
            have HSD := Lib.hid (HE5.out.keep0 (Keeps.drew [] w5))
            have HRD := Lib.hid (HR3.out.keep (Keeps.drew [] w5) (by simp))
            obtain ⟨JR, hJR, hrow⟩ := HRD.out.row
            have hbl := HE.out.bu.lt
            have hqe := lt_of_block HE.out.rb.head
            have HP := Lib.hid (st_put HSD.out (addI at0 D32) hua A3 m c3 x hrow.bytes (fun w2 k => (hrow.keep k (fun y hy => by have := hJR y hy; simp; omega)).bytes) (by have := HXM.out; omega))
            obtain ⟨JC, hJC, hcin⟩ := CellsIn.of_row HRD.out
            have HJC := Lib.hid hJC
            have HCI := Lib.hid hcin
            have HCC := Lib.hid (And.intro c0 c1)
            have HEB := Lib.hid (And.intro hbl hqe)
            clear hrb5 hau hat0 c0 c1 hD hua hJR hrow hbl hqe hJC hcin y0 y1
            go_wp2_with fail
            go_region_held3 (fun W => W.cell? ⟨q, 0, none⟩ = some (.int .u32 at0) ∧ W.cell? ⟨wr.heap.size, 1, none⟩ = some (.int .i32 at_))
              (exact HCC.out)
              (fail)
            have y1d : w5.drew.cell? ⟨wr.heap.size, 1, none⟩ = some (.int .i32 at_) := HCC.out.2
            go_wp2_with fail
            refine HP.out.mono ?_
            rintro e w6 ⟨n1, n2, rfl, hrb6, hcall⟩
            have HCALL := Lib.hid hcall
            clear hrb6 hcall HP y0d y1d x1 x2
            go_wp2_with fail
            refine HCALL.out.mono ?_
            rintro e w7 ⟨rfl, k7, mb7, J7, s7, r7, v17, v27, hst, hj7, hm7⟩
            have HS7 := Lib.hid hst
            have HK7 := Lib.hid k7
            have HFAR := Lib.hid (show ∀ y ∈ JC, y ≠ q ∧ y ≠ b' ∧ y ≠ mb7 ∧ y ∉ J7 ∧ w.heap.size ≤ y from fun y hy => by
              have h1 := HJC.out y hy
              have h2 := HEB.out
              have h3 := HE.out.fb
              have h4 := HE.out.bu.lt
              have h5 := HE.out.k.size
              refine ⟨by omega, by omega, ?_, fun hm => ?_, by omega⟩
              · rcases hm7 with e | e
                · omega
                · omega
              · rcases hj7 y hm with h6 | h6
                · have := HE.out.fj y h6
                  omega
                · omega)
            have HC7 := Lib.hid (HCI.out.keeps k7 (fun y hy => by have := HFAR.out y hy; simp; omega))
            clear hst k7 hj7 hm7 HCALL HCI
            go_wp2_with fail
            go_loopg [20] (m + 1) (fun gk kv wx => ∃ k : Nat, kv = .int .i64 k ∧ k ≤ m ∧ gk = m + 1 - k ∧ Hid (Keeps JC w7 wx ∧ CellsIn wx JC A3 m))
            case atStart => exact ⟨0, rfl, Nat.zero_le _, rfl, Lib.hid ⟨Keeps.refl _ _, HC7.out⟩⟩
            case round =>
              obtain ⟨k, rfl, hk, hg, HI⟩ := hrel
              subst hg
              rcases Nat.lt_or_ge k m with hkm | hkm
              · have hkI : (k : Int) < (m : Int) := by omega
                have hk0 : (0 : Int) ≤ (k : Int) := by omega
                obtain ⟨g1, o1, z, hA1, hg1, hz, hfz⟩ := HI.out.2.at hkm
                subst hA1
                have HG1 := Lib.hid hg1
                have hkb : k ≤ 2000 := by have := HXM.out; omega
                clear hg1
                go_wp2_with fail
                go_roundg (m + 1 - (k + 1))
                case measure => omega
                case rel => exact ⟨k + 1, by simp, by omega, rfl, Lib.hid ⟨HI.out.1.trans ((Keeps.setCell _ _ _).mono (by simp; exact HG1.out)), HI.out.2.set _ _⟩⟩
              · have hkI : ¬ (k : Int) < (m : Int) := by omega
                have HF := Lib.hid (HS7.out.chg HI.out.1 HFAR.out)
                go_wp2_with fail
                go_meet
                exact ⟨b', rfl, by first | rfl | simp, Lib.hid ⟨_, _, _, _, _, _, HF.out⟩⟩
          · as_aux_lemma =>
            have y1 : w5.cell? ⟨wr.heap.size, 1, none⟩ = some (.int .i32 at_) := cell_of_block HBX.out 1
            have hrb5 := HE5.out.rb
            have hau := (HE5.out.sim.ok HE5.out.ok).at_
            obtain ⟨at0, hat0⟩ : ∃ a, r.at_ = a := ⟨_, rfl⟩
            have c0 : w5.drew.cell? ⟨q, 0, none⟩ = some (.int .u32 at0) := by rw [← hat0]; exact hrb5.c0
            have c1 : w5.drew.cell? ⟨wr.heap.size, 1, none⟩ = some (.int .i32 at_) := y1
            obtain ⟨D32, hD⟩ : ∃ D, at_ % 4294967296 = D := ⟨_, rfl⟩
            have x1 : IntKind.u32.wrap at_ = D32 := by rw [← hD]; simp [IntKind.wrap, IntKind.signed, IntKind.bits]
            have x2 : IntKind.u32.wrap (at0 + D32) = addI at0 D32 := by simp [IntKind.wrap, IntKind.signed, IntKind.bits, addI]
            have hua : U32 D32 := by rw [← hD]; exact ⟨by omega, by omega⟩
            have y0d : w5.drew.cell? ⟨wr.heap.size, 0, none⟩ = some (.int .i64 7) := y0
            have HSD := Lib.hid (HE5.out.keep0 (Keeps.drew [] w5))
            have HRD := Lib.hid (HR3.out.keep (Keeps.drew [] w5) (by simp))
            obtain ⟨JR, hJR, hrow⟩ := HRD.out.row
            have hbl := HE.out.bu.lt
            have hqe := lt_of_block HE.out.rb.head
            have HP := Lib.hid (st_put HSD.out D32 hua A3 m c3 x hrow.bytes (fun w2 k => (hrow.keep k (fun y hy => by have := hJR y hy; simp; omega)).bytes) (by have := HXM.out; omega))
            obtain ⟨JC, hJC, hcin⟩ := CellsIn.of_row HRD.out
            have HJC := Lib.hid hJC
            have HCI := Lib.hid hcin
            have HCC := Lib.hid (And.intro c0 c1)
            have HEB := Lib.hid (And.intro hbl hqe)
            clear hrb5 hau hat0 c0 c1 hD hua hJR hrow hbl hqe hJC hcin y0 y1
            go_wp2_with fail
            go_region_held3 (fun W => W.cell? ⟨q, 0, none⟩ = some (.int .u32 at0) ∧ W.cell? ⟨wr.heap.size, 1, none⟩ = some (.int .i32 at_))
              (exact HCC.out)
              (fail)
            have y1d : w5.drew.cell? ⟨wr.heap.size, 1, none⟩ = some (.int .i32 at_) := HCC.out.2
            go_wp2_with fail
            refine HP.out.mono ?_
            rintro e w6 ⟨n1, n2, rfl, hrb6, hcall⟩
            have HCALL := Lib.hid hcall
            clear hrb6 hcall HP y0d y1d x1 x2
            go_wp2_with fail
            refine HCALL.out.mono ?_
            rintro e w7 ⟨rfl, k7, mb7, J7, s7, r7, v17, v27, hst, hj7, hm7⟩
            have HS7 := Lib.hid hst
            have HK7 := Lib.hid k7
            have HFAR := Lib.hid (show ∀ y ∈ JC, y ≠ q ∧ y ≠ b' ∧ y ≠ mb7 ∧ y ∉ J7 ∧ w.heap.size ≤ y from fun y hy => by
              have h1 := HJC.out y hy
              have h2 := HEB.out
              have h3 := HE.out.fb
              have h4 := HE.out.bu.lt
              have h5 := HE.out.k.size
              refine ⟨by omega, by omega, ?_, fun hm => ?_, by omega⟩
              · rcases hm7 with e | e
                · omega
                · omega
              · rcases hj7 y hm with h6 | h6
                · have := HE.out.fj y h6
                  omega
                · omega)
            have HC7 := Lib.hid (HCI.out.keeps k7 (fun y hy => by have := HFAR.out y hy; simp; omega))
            clear hst k7 hj7 hm7 HCALL HCI
            go_wp2_with fail
            go_loopg [20] (m + 1) (fun gk kv wx => ∃ k : Nat, kv = .int .i64 k ∧ k ≤ m ∧ gk = m + 1 - k ∧ Hid (Keeps JC w7 wx ∧ CellsIn wx JC A3 m))
            case atStart => exact ⟨0, rfl, Nat.zero_le _, rfl, Lib.hid ⟨Keeps.refl _ _, HC7.out⟩⟩
            case round =>
              obtain ⟨k, rfl, hk, hg, HI⟩ := hrel
              subst hg
              rcases Nat.lt_or_ge k m with hkm | hkm
              · have hkI : (k : Int) < (m : Int) := by omega
                have hk0 : (0 : Int) ≤ (k : Int) := by omega
                obtain ⟨g1, o1, z, hA1, hg1, hz, hfz⟩ := HI.out.2.at hkm
                subst hA1
                have HG1 := Lib.hid hg1
                have hkb : k ≤ 2000 := by have := HXM.out; omega
                clear hg1
                go_wp2_with fail
                go_roundg (m + 1 - (k + 1))
                case measure => omega
                case rel => exact ⟨k + 1, by simp, by omega, rfl, Lib.hid ⟨HI.out.1.trans ((Keeps.setCell _ _ _).mono (by simp; exact HG1.out)), HI.out.2.set _ _⟩⟩
              · have hkI : ¬ (k : Int) < (m : Int) := by omega
                have HF := Lib.hid (HS7.out.chg HI.out.1 HFAR.out)
                go_wp2_with fail
                go_meet
                exact ⟨b', rfl, by first | rfl | simp, Lib.hid ⟨_, _, _, _, _, _, HF.out⟩⟩
        · by_cases h4 : what = 4
          · as_aux_lemma =>
            subst h4
            have HT := Lib.hid (st_take HE5.out)
            have HQL := Lib.hid (lt_of_block HE5.out.rb.head)
            clear hp
            go_wp2_with fail
            refine HT.out.mono ?_
            rintro e w6 ⟨va, rfl, hown, hz, hcall⟩
            obtain ⟨Ax, cx, rfl⟩ := own_form hown
            obtain ⟨BZ, hBZ⟩ : ∃ z : ByteArray, (⟨s.out.toArray⟩ : ByteArray) = z := ⟨_, rfl⟩
            have HCV := Lib.hid (fun (W : World) (k : Keeps [q] w6 W) => (show (convert 22 9 (.slice Ax s.out.length cx)).run Try.prog W = .ok (.string BZ) W from by
              rw [← hBZ]
              exact (BytesV.of_own (hown.kept k.toGrown (Or.inr fun e => by have := (hown.lt q e).1; have := HQL.out; omega))).str0 (P := Try.prog) 22 9 5 Try.underlying22 Try.underlying5 Try.underlying9))
            have HC2 := Lib.hid hcall
            have HBZ := Lib.hid hBZ
            clear hown hz hcall hBZ HT
            go_wp2_with fail
            go_region_held_law (fun W => (convert 22 9 (.slice Ax s.out.length cx)).run Try.prog W = .ok (.string BZ) W)
              (first | exact HCV.out _ (Keeps.drew [q] w6) | exact HCV.out _ hk7)
              (first | (go_at_call 18; refine (HC2.out w6.drew (Keeps.drew [] w6)).mono ?_; rintro e w7 ⟨vb, rfl, hb7, k7, hql, v1n, v2n, hst⟩; have hk7 : Keeps [q] w6 w7 := (Keeps.drew [q] w6).trans k7; obtain ⟨Ay, cy, hvy⟩ := hb7.slice; subst hvy; have hcv7 := hb7.str0 (P := Try.prog) 22 9 5 Try.underlying22 Try.underlying5 Try.underlying9; rw [HBZ.out] at hcv7; have HS7 := Lib.hid hst; clear k7 hst hql hb7))
            all_goals
              go_wp2_with fail
              go_meet
              exact ⟨b', rfl, by first | rfl | simp, Lib.hid ⟨_, _, _, _, _, _, HS7.out⟩⟩
          · by_cases h5 : what = 5
            · as_aux_lemma =>
              subst h5
              have HBU := Lib.hid HE5.out.bu
              have HC := Lib.hid (bcopy_any HE5.out.bu)
              obtain ⟨at0, hat0⟩ : ∃ a, r.at_ = a := ⟨_, rfl⟩
              have hau := (HE5.out.sim.ok HE5.out.ok).at_
              rw [hat0] at hau
              have HAU := Lib.hid (And.intro hau hat0)
              clear hp h4 hau hat0
              go_wp2_with fail
              refine HC.out.mono ?_
              rintro e w6 ⟨b2, mb2, rfl, hb2, k6, hl1, hl2⟩
              have HS6 := Lib.hid (st_copy HE5.out hb2 k6 hl1 hl2)
              have c0 : w6.cell? ⟨q, 0, none⟩ = some (.int .u32 at0) := by rw [← HAU.out.2]; exact HS6.out.rb.c0
              have HBU6 := Lib.hid (HBU.out.keep k6 (by simp) (by simp))
              have HL := Lib.hid (And.intro hl1 (And.intro hl2 k6.size))
              clear hb2 k6 hl1 hl2 HC
              have hcs := Go.Joins.run_convert_bytes_const_at (P := Try.prog) w6 22 5 #[.int .u8 122, .int .u8 122] 2 2 w6.heap.size rfl Try.underlying22 Try.underlying5
              go_wp2_with fail
              refine calls_gn fun w7 hw7 => ?_
              have k7 : Keeps [] w6 w7 := by rw [hw7]; exact Keeps.alloc [] w6 _
              have HBV := Lib.hid (show BytesV w7 (.slice (some ⟨w6.heap.size, 0, none⟩) 2 2) [122, 122] from by rw [hw7]; exact BytesV.constP w6 _ [122, 122] _ rfl (by simp [maxLen]))
              clear hcs
              have HSP := Lib.hid (spoil (HBU6.out.keep k7 (by simp) (by simp)) HE5.out.ok at0 HAU.out.1 (some ⟨w6.heap.size, 0, none⟩) 2 2 [122, 122] HBV.out (by omega))
              have HS7 := Lib.hid (HS6.out.keep0 k7)
              have HZ7 := Lib.hid k7.size
              clear hw7 k7 c0
              refine HSP.out.mono ?_
              rintro e w8 ⟨n1, n2, rfl, hcall⟩
              have HCALL := Lib.hid hcall
              clear hcall HSP
              go_wp2_with fail
              refine HCALL.out.mono ?_
              rintro e w9 ⟨v9, S9, rfl, k9, hs9⟩
              have HF := Lib.hid (HS7.out.chg k9 (fun y hy => by
                have h1 := HE5.out
                have h2 := h1.bu.lt
                have h3 := HL.out
                have h4 := HZ7.out
                have h5 := lt_of_block h1.rb.head
                have h6 := HS6.out.bu.lt
                have h7 := h1.k.size
                rcases hs9 y hy with rfl | rfl | h8
                · exact ⟨h1.bq, by omega, by omega, h1.nb, h1.fb.1⟩
                · exact ⟨h1.mq, by omega, by omega, h1.nm, h1.fb.2.1⟩
                · exact ⟨by omega, by omega, by omega, fun hm => by have := h1.fj y hm; omega, by omega⟩))
              clear k9 hs9 HCALL
              go_wp2_with fail
              go_meet
              exact ⟨b2, rfl, rfl, Lib.hid ⟨_, _, _, _, _, _, HF.out⟩⟩
            · by_cases h6 : what = 6
              · as_aux_lemma =>
                subst h6
                have HC := Lib.hid (bcopy_any HE5.out.bu)
                obtain ⟨at0, hat0⟩ : ∃ a, r.at_ = a := ⟨_, rfl⟩
                have hau := (HE5.out.sim.ok HE5.out.ok).at_
                rw [hat0] at hau
                have HAU := Lib.hid (And.intro hau hat0)
                obtain ⟨JR, hJR, hrow⟩ := HR3.out.row
                have HROW := Lib.hid hrow
                clear hp h4 h5 hau hat0 hJR hrow
                go_wp2_with fail
                refine HC.out.mono ?_
                rintro e w6 ⟨b2, mb2, rfl, hb2, k6, hl1, hl2⟩
                have HS6 := Lib.hid (HE5.out.keep0 k6)
                have c0 : w6.cell? ⟨q, 0, none⟩ = some (.int .u32 at0) := by rw [← HAU.out.2]; exact HS6.out.rb.c0
                have HSP := Lib.hid (spoil hb2 HE5.out.ok at0 HAU.out.1 A3 m c3 x ((HROW.out.keep0 k6).bytes) (by have := HXM.out; omega))
                have HL := Lib.hid (And.intro hl1 (And.intro hl2 (And.intro k6.size hb2.lt)))
                clear hb2 k6 hl1 hl2 HC
                go_wp2_with fail
                refine HSP.out.mono ?_
                rintro e w8 ⟨n1, n2, rfl, hcall⟩
                have HCALL := Lib.hid hcall
                clear hcall HSP c0
                go_wp2_with fail
                refine HCALL.out.mono ?_
                rintro e w9 ⟨v9, S9, rfl, k9, hs9⟩
                have HF := Lib.hid (HS6.out.chg k9 (fun y hy => by
                  have h1 := HE5.out
                  have h2 := h1.bu.lt
                  have h3 := HL.out
                  have h5 := lt_of_block h1.rb.head
                  have h7 := h1.k.size
                  have h9 : w5.heap.size ≤ y := by
                    rcases hs9 y hy with rfl | rfl | h8
                    · exact h3.1
                    · exact h3.2.1
                    · omega
                  exact ⟨by omega, by omega, by omega, fun hm => by have := h1.fj y hm; omega, by omega⟩))
                clear k9 hs9 HCALL
                go_wp2_with fail
                go_meet
                exact ⟨b', rfl, rfl, Lib.hid ⟨_, _, _, _, _, _, HF.out⟩⟩
              · have n0 : (what == 0) = false := by rw [beq_eq_false_iff_ne]; omega
                have n1 : (what == 1) = false := by rw [beq_eq_false_iff_ne]; omega
                have n2 : (what == 2) = false := by rw [beq_eq_false_iff_ne]; omega
                have n3 : (what == 3) = false := by rw [beq_eq_false_iff_ne]; omega
                have n7 : (what == 7) = false := by rw [beq_eq_false_iff_ne]; omega
                have n4 : (what == 4) = false := by rw [beq_eq_false_iff_ne]; omega
                have n5 : (what == 5) = false := by rw [beq_eq_false_iff_ne]; omega
                have n6 : (what == 6) = false := by rw [beq_eq_false_iff_ne]; omega
                clear hp h4 h5 h6
                go_wp2_with fail
                go_meet
                exact ⟨b', rfl, rfl, Lib.hid ⟨_, _, _, _, _, _, HE5.out⟩⟩
      case rest =>
        as_aux_lemma =>
        obtain ⟨b2, rfl, rfl, HF⟩ := hcut
        obtain ⟨mb2, J2, s2, r2, z1, z2, HG⟩ : ∃ mb J s r v1 v2, Hid (St w wc q b2 mb J s r v1 v2) := by
          obtain ⟨mb, J, s, r, v1, v2, h⟩ := HF.out
          exact ⟨mb, J, s, r, v1, v2, Lib.hid h⟩
        obtain ⟨Az, cz, hz1⟩ := HG.out.rb.form1
        subst hz1
        obtain ⟨n2, hn2⟩ : ∃ n2, r2.len = n2 := ⟨_, rfl⟩
        obtain ⟨at0, hat0⟩ : ∃ a, s2.next = a := ⟨_, rfl⟩
        obtain ⟨R2, hR2⟩ : ∃ R, s2.ready = R := ⟨_, rfl⟩
        have hroom : s2.room - s2.taken = (n2 : Int) := by rw [← hn2, HG.out.sim.len, BS.len_int HG.out.ok]
        have HCL := Lib.hid (fun (W : World) (k : Keeps [] wc W) => (show W.cell? ⟨q, 0, none⟩ = some (.int .u32 at0) ∧ W.cell? ⟨q, 1, none⟩ = some (.slice Az n2 cz) from
          ⟨by rw [← hat0, ← HG.out.sim.at_]; exact (HG.out.rb.keep0 k).c0, by rw [← hn2]; exact (HG.out.rb.keep0 k).c1⟩))
        have HBW := Lib.hid (fun (W : World) (k : Keeps [] wc W) => HG.out.bu.keep k (by simp) (by simp))
        have CN := Lib.hid (fun (W : World) (k : Keeps [] wc W) => bnext_any (HBW.out W k) HG.out.ok)
        rw [hat0] at CN
        have CR := Lib.hid (fun (W : World) (k : Keeps [] wc W) => broom_any (HBW.out W k) HG.out.ok)
        rw [hroom] at CR
        have CD := Lib.hid (fun (W : World) (k : Keeps [] wc W) => bready_any (HBW.out W k) HG.out.ok)
        rw [hR2] at CD
        have CE := Lib.hid (fun (W : World) (k : Keeps [] wc W) => rready_any (HG.out.rb.keep0 k) (HG.out.sim.ok HG.out.ok))
        rw [HG.out.sim.ready HG.out.ok, hR2] at CE
        have CH := Lib.hid (fun (W : World) (k : Keeps [] wc W) => bheld_any (HBW.out W k) HG.out.ok)
        have CJ := Lib.hid (fun (W : World) (k : Keeps [] wc W) => rheld_any (HG.out.rb.keep0 k) (HG.out.sim.ok HG.out.ok))
        rw [HG.out.sim.held HG.out.ok] at CJ
        have HLS := Lib.hid (show s2.held.length ≤ 16384 by rw [← HG.out.sim.held HG.out.ok]; exact Nat.le_trans (heldI_len _ _) (HG.out.sim.ok HG.out.ok).len)
        have hk0 : Keeps [] wc wc.drew := Keeps.drew [] wc
        clear HE5 HE HBX y0 HR3 hroom hn2 hat0 hR2
        go_wp2_with fail
        go_region_held3 (fun W => Keeps [] wc W ∧ W.cell? ⟨q, 0, none⟩ = some (.int .u32 at0) ∧ W.cell? ⟨q, 1, none⟩ = some (.slice Az n2 cz))
          (first | exact ⟨hk5, HCL.out _ hk5⟩ | exact ⟨hk4, HCL.out _ hk4⟩ | exact ⟨hk3, HCL.out _ hk3⟩ | exact ⟨hk2, HCL.out _ hk2⟩ | exact ⟨hk1, HCL.out _ hk1⟩ | exact ⟨hk0, HCL.out _ hk0⟩)
          (first
            | (go_at_call 11; with_reducible refine (CN.out wc.drew hk0).mono ?_; rintro e wn ⟨rfl, rfl⟩)
            | (go_at_call 12; with_reducible refine (CR.out wc.drew hk0).mono ?_; rintro e w11 ⟨rfl, d1, hd1⟩; have hk1 : Keeps [] wc w11 := (by rw [hd1]; exact hk0.drewN' _); clear hd1)
            | (go_at_call 14; with_reducible refine (CD.out w11 hk1).mono ?_; rintro e w12 ⟨rfl, d2, hd2⟩; have hk2 : Keeps [] wc w12 := (by rw [hd2]; exact hk1.drewN' _); clear hd2)
            | (go_at_call 20; with_reducible refine (CE.out w12 hk2).mono ?_; rintro e wn ⟨rfl, hwn⟩; subst hwn)
            | (go_at_call 13; with_reducible refine (CH.out _ hk2).mono ?_; rintro e w13 ⟨va, rfl, hoA, k3⟩; have hk3 : Keeps [] wc w13 := hk2.trans k3; obtain ⟨Aa, ca, hva⟩ := own_form hoA; subst hva)
            | (go_at_call 22; with_reducible refine (CJ.out w13 hk3).mono ?_; rintro e w14 ⟨vb, rfl, hoB, k4⟩; have hk4 : Keeps [] wc w14 := hk3.trans k4; have hoA4 := own_keeps hoA k4; obtain ⟨Ab2, cb2, hvb⟩ := own_form hoB; subst hvb)
            | (go_at_call 21; with_reducible refine (rsame_any hoA4 hoB HLS.out (held_u32 s2)).mono ?_; rintro e w15 ⟨rfl, k5⟩; have hk5 : Keeps [] wc w15 := hk4.trans k5))
        all_goals
          go_wp2_with fail
          go_roundg (61 - (i + 1))
          case measure => have := HIN.out; omega
          case rel => exact ⟨i + 1, b2, rfl, by simp, by have := HIN.out; omega, rfl, Lib.hid ⟨_, _, _, _, _, _, HG.out.keep0 hk5⟩⟩
    · by_cases hn : i < n
      · have h1 : (i : Int) < (n : Int) := by omega
        have h2 : ¬ (i : Int) < 60 := by omega
        clear hin
        go_wp2_with fail
        refine (wakes_any wr).mono ?_
        rintro e w5 ⟨rfl, k5⟩
        have K5 := Lib.hid (Below.keeps k5)
        clear k5
        go_wp2_with fail
        go_ret
        exact ⟨rfl, HE.out.k.trans K5.out⟩
      · have h1 : ¬ (i : Int) < (n : Int) := by omega
        clear hin
        go_wp2_with fail
        refine (wakes_any wr).mono ?_
        rintro e w5 ⟨rfl, k5⟩
        have K5 := Lib.hid (Below.keeps k5)
        clear k5
        go_wp2_with fail
        go_ret
        exact ⟨rfl, HE.out.k.trans K5.out⟩
end Go.Proofs.Ytknlcieceghaiaa
