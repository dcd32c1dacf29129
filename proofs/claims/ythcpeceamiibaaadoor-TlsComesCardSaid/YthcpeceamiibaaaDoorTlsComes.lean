/-
  The law TlsComes: the walk, over its arguments as they come in. No condition.
-/
import Derived.Test.YthcpeceamiibaaaDoorTlsHe
import Derived.Test.YthcpeceamiibaaaDoorTlsC
import Derived.Test.YthcpeceamiibaaaDoorTlsG
namespace Go.Proofs.YthcpeceamiibaaaDoor
open Go.RowKit Go.ChangeShapes Go.WideShapes Go.ChangeAt Go.Joins Go.Lib
set_option linter.unusedVariables false
set_option linter.unusedSimpArgs false

theorem hello_told {name : ByteArray} {before behind : List UInt8} {parts : List Int} (h : (helloAll name before behind parts).1 = 0) :
    (helloAll name before behind parts).2.length ≤ 20000 ∧ (name = ByteArray.empty ∧ lookP (helloAll name before behind parts).2 = (2, ByteArray.empty) ∨ name ≠ ByteArray.empty ∧ ∃ L, foldB name = L ∧ foldIs name = true ∧ name.size ≤ 253 ∧ (⟨(toLowerD name.data.toList).toArray⟩ : ByteArray) = L ∧ lookP (helloAll name before behind parts).2 = (1, L)) := by
  unfold helloAll at *
  by_cases hc : name.data.toList ≠ [] ∧ foldIs name = false
  · rw [if_pos hc] at h; simp at h
  · rw [if_neg hc] at h ⊢
    unfold helloR at *
    by_cases hlow : parts.any lowQ = true
    · rw [if_pos hlow] at h; simp at h
    · rw [if_neg hlow] at h ⊢
      by_cases hlong : 1000 < before.length ∨ 1000 < behind.length
      · rw [if_pos hlong] at h; simp at h
      · rw [if_neg hlong] at h ⊢
        have hp : parts.any lowQ = false := by simpa using hlow
        by_cases hn : name.data.toList = []
        · have hl := lookP_hello (name := name.data.toList) (before := before) (behind := behind) (parts := parts) (by omega) (by omega) (fun h => absurd hn h) hp
          rw [if_pos hn] at hl
          exact ⟨helloB_len (by omega) (by omega) (by simp [hn]), .inl ⟨ba_nil hn, hl⟩⟩
        · have hf : foldIs name = true := by
            cases h : foldIs name with
            | true => rfl
            | false => exact absurd ⟨hn, h⟩ hc
          cases hl : foldA name.data.toList with
          | none => rw [(foldB_not hl).2] at hf; cases hf
          | some low =>
            have h253 := (foldA_some hl).2.1
            have hlk := lookP_hello (name := name.data.toList) (before := before) (behind := behind) (parts := parts) (by omega) (by omega) (fun _ => ⟨low, hl⟩) hp
            rw [if_neg hn, hl] at hlk
            refine ⟨helloB_len (by omega) (by omega) h253, .inr ⟨fun e => hn (by rw [e]; rfl), ⟨low.toArray⟩, (foldB_at hl).1, hf, by rw [size_eq]; exact h253, by rw [foldA_low hl], hlk⟩⟩
set_option maxRecDepth 100000 in
set_option maxHeartbeats 8000000 in
theorem comes_walk (w : World) (hw : LW w) (s0 : ByteArray) (A1 A2 A3 A4 : Option Addr) (n1 n2 n3 n4 c1 c2 c3 c4 ct : Nat) (l1 l2 l4 : List UInt8) (l3 : List Int) (hb1 : BytesV w (.slice A1 n1 c1) l1) (hb2 : BytesV w (.slice A2 n2 c2) l2) (hp : IntsV w A3 n3 c3 l3) (hb4 : BytesV w (.slice A4 n4 c4) l4) (hct : ct < 65536) :
    Calls Tryd.prog 3 #[.agg #[.string s0, .slice A1 n1 c1, .slice A2 n2 c2, .slice A3 n3 c3], .agg #[.int .u16 ct, .slice A4 n4 c4]] w fun e w' => e = .returned (.bool true) ∧ Keeps [] w w' := by
  obtain ⟨bx, hbx⟩ : ∃ bx, w.heap.size = bx := ⟨_, rfl⟩
  obtain ⟨w1, hw1⟩ : ∃ w1, (w.alloc (.cells #[.string s0, .slice A1 n1 c1, .slice A2 n2 c2, .slice A3 n3 c3] 25)).alloc (.cells #[.int .u16 ct, .slice A4 n4 c4] 28) = w1 := ⟨_, rfl⟩
  have k0 : Keeps [] w (w.alloc (.cells #[.string s0, .slice A1 n1 c1, .slice A2 n2 c2, .slice A3 n3 c3] 25)) := Keeps.alloc [] w _
  have hbk : w1.heap[bx]? = some (.cells #[.string s0, .slice A1 n1 c1, .slice A2 n2 c2, .slice A3 n3 c3] 25 (0, 0)) := by
    rw [← hw1, ← hbx]
    exact ((Keeps.alloc [] _ _).block _ (lt_of_block (MapKept.heap_alloc w _).1) (by simp)).trans (MapKept.heap_alloc w _).1
  have hbv : w1.heap[bx + 1]? = some (.cells #[.int .u16 ct, .slice A4 n4 c4] 28 (0, 0)) := by
    rw [← hw1, ← hbx]
    have := (MapKept.heap_alloc (w.alloc (.cells #[.string s0, .slice A1 n1 c1, .slice A2 n2 c2, .slice A3 n3 c3] 25)) (.cells #[.int .u16 ct, .slice A4 n4 c4] 28)).1
    rw [show (w.alloc (.cells #[.string s0, .slice A1 n1 c1, .slice A2 n2 c2, .slice A3 n3 c3] 25)).heap.size = w.heap.size + 1 from by simp] at this
    exact this
  have k1 : Keeps [] w w1 := by rw [← hw1]; exact k0.trans (Keeps.alloc [] _ _)
  have d0 : w1.cell? ⟨bx, 0, none⟩ = some (.string s0) := cell_of_block hbk 0
  have d1 : w1.cell? ⟨bx, 1, none⟩ = some (.slice A1 n1 c1) := cell_of_block hbk 1
  have d2 : w1.cell? ⟨bx, 2, none⟩ = some (.slice A2 n2 c2) := cell_of_block hbk 2
  have d3 : w1.cell? ⟨bx, 3, none⟩ = some (.slice A3 n3 c3) := cell_of_block hbk 3
  have HCU := Lib.hid (cut_any w1 s0 A1 A2 A3 n1 n2 n3 c1 c2 c3 _ _ _ _ rfl rfl rfl rfl hb1.form.2.1 hb2.form.2.1 hp.2.1)
  obtain ⟨m1, hm1⟩ : ∃ m, min n1 1200 = m := ⟨_, rfl⟩
  obtain ⟨m2, hm2⟩ : ∃ m, min n2 1200 = m := ⟨_, rfl⟩
  obtain ⟨m3, hm3⟩ : ∃ m, min n3 20 = m := ⟨_, rfl⟩
  obtain ⟨m4, hm4⟩ : ∃ m, min n4 100 = m := ⟨_, rfl⟩
  obtain ⟨s, hs⟩ : ∃ s, s0.extract 0 (min s0.size 400) = s := ⟨_, rfl⟩
  rw [hm1, hm2, hm3, hs] at HCU
  have B1 := Lib.hid (hb1.cut' (m := m1) (by omega))
  have B2 := Lib.hid (hb2.cut' (m := m2) (by omega))
  have B3 := Lib.hid (hp.cut (m := m3) (by omega))
  have B4 := Lib.hid (hb4.cut' (m := m4) (by omega))
  have hm3b : m3 ≤ 20 := by omega
  have hm4b : m4 ≤ 100 := by omega
  have q4 : min (n4 : Int) 100 = (m4 : Int) := by omega
  have p4 := hb4.form.2.1
  have r4 : (m4 : Int) ≤ (c4 : Int) := by omega
  have t4 : (0 : Int) ≤ (m4 : Int) := by omega
  have HW := Lib.hid hw
  have HBK := Lib.hid hbk
  have HBV := Lib.hid hbv
  have HK1 := Lib.hid k1
  have hbw : w.heap.size ≤ bx := by omega
  clear hb1 hb2 hb4 hp hbk hbv k0 k1 hm1 hm2 hm3 hm4 hs hw p4
  go_enter Tryd.func3, Tryd.ntmps3
  go_wp2_with fail
  refine HCU.out.mono ?_
  rintro e w2 ⟨rfl, k2⟩
  have hb2 := (k2.block bx (lt_of_block HBK.out) (by simp)).trans HBK.out
  have hv2 := (k2.block (bx + 1) (lt_of_block HBV.out) (by simp)).trans HBV.out
  have e0 : w2.cell? ⟨bx, 0, none⟩ = some (.string s0) := cell_of_block hb2 0
  have e1 : w2.cell? ⟨bx, 1, none⟩ = some (.slice A1 n1 c1) := cell_of_block hb2 1
  have e2 : w2.cell? ⟨bx, 2, none⟩ = some (.slice A2 n2 c2) := cell_of_block hb2 2
  have e3 : w2.cell? ⟨bx, 3, none⟩ = some (.slice A3 n3 c3) := cell_of_block hb2 3
  have z0 : w2.frozen? ⟨bx, 0, none⟩ = false := free_of_block hb2 0
  have z1 : w2.frozen? ⟨bx, 1, none⟩ = false := free_of_block hb2 1
  have z2 : w2.frozen? ⟨bx, 2, none⟩ = false := free_of_block hb2 2
  have z3 : w2.frozen? ⟨bx, 3, none⟩ = false := free_of_block hb2 3
  have HB2 := Lib.hid hb2
  have HV2 := Lib.hid hv2
  have HK2 := Lib.hid (HK1.out.trans k2)
  clear hb2 hv2 k2 HCU d0 d1 d2 d3
  obtain ⟨w3, hw3⟩ : ∃ w3, (((w2.setCell ⟨bx, 0, none⟩ (.string s)).setCell ⟨bx, 1, none⟩ (.slice A1 m1 c1)).setCell ⟨bx, 2, none⟩ (.slice A2 m2 c2)).setCell ⟨bx, 3, none⟩ (.slice A3 m3 c3) = w3 := ⟨_, rfl⟩
  have g0 := heap_setCell_self HB2.out 0 (.string s)
  have g1 := heap_setCell_self g0 1 (.slice A1 m1 c1)
  have g2 := heap_setCell_self g1 2 (.slice A2 m2 c2)
  have g3 := heap_setCell_self g2 3 (.slice A3 m3 c3)
  have kk : Keeps [bx] w2 w3 := by rw [← hw3]; exact ((((Keeps.setCell w2 ⟨bx, 0, none⟩ _).trans (Keeps.setCell _ ⟨bx, 1, none⟩ _)).trans (Keeps.setCell _ ⟨bx, 2, none⟩ _)).trans (Keeps.setCell _ ⟨bx, 3, none⟩ _))
  rw [hw3] at g3
  have r0 : w3.cell? ⟨bx, 0, none⟩ = some (.string s) := by simpa using cell_of_block g3 0
  have r1 : w3.cell? ⟨bx, 1, none⟩ = some (.slice A1 m1 c1) := by simpa using cell_of_block g3 1
  have r2 : w3.cell? ⟨bx, 2, none⟩ = some (.slice A2 m2 c2) := by simpa using cell_of_block g3 2
  have r3 : w3.cell? ⟨bx, 3, none⟩ = some (.slice A3 m3 c3) := by simpa using cell_of_block g3 3
  have hv3 := (kk.block (bx + 1) (lt_of_block HV2.out) (by simp)).trans HV2.out
  have y0 : w3.cell? ⟨bx + 1, 0, none⟩ = some (.int .u16 ct) := cell_of_block hv3 0
  have y1 : w3.cell? ⟨bx + 1, 1, none⟩ = some (.slice A4 n4 c4) := cell_of_block hv3 1
  have HK3 := Lib.hid (show Keeps [] w w3 from ((HK2.out.mono (T := [bx]) (by simp)).trans kk).fresh (fun x hx hl => by simp at hx; omega))
  have HR := Lib.hid (And.intro r0 (And.intro y0 y1))
  clear g0 g1 g2 g3 kk hv3 y0 y1
  go_wp2_with fail
  have HA := Lib.hid (hello_all w3 (HW.out.keep0 HK3.out) s A1 A2 m1 m2 c1 c2 (l1.take m1) (l2.take m2) (B1.out.keep0 HK3.out) (B2.out.keep0 HK3.out) A3 m3 c3 (l3.take m3) (B3.out.keep0 HK3.out) (by omega))
  have HT := Lib.hid (hello_told (name := s) (before := l1.take m1) (behind := l2.take m2) (parts := l3.take m3))
  obtain ⟨K, hK⟩ : ∃ K, (helloAll s (l1.take m1) (l2.take m2) (l3.take m3)).1 = K := ⟨_, rfl⟩
  obtain ⟨L, hL⟩ : ∃ L, (helloAll s (l1.take m1) (l2.take m2) (l3.take m3)).2 = L := ⟨_, rfl⟩
  rw [hK, hL] at HA HT
  refine HA.out.mono ?_
  rintro e w4 ⟨v4, rfl, ho4, k4⟩
  have x0 := cell_keeps k4 HR.out.1 (by simp)
  have x1 := cell_keeps k4 HR.out.2.1 (by simp)
  have x2 := cell_keeps k4 HR.out.2.2 (by simp)
  have HK4 := Lib.hid (HK3.out.trans k4)
  have HX := Lib.hid (And.intro x0 (And.intro x1 x2))
  have HO4 := Lib.hid ho4.bytes
  obtain ⟨A5, c5, rfl⟩ := ho4.form
  clear r0 r1 r2 r3 x1 x2 k4 ho4 HA HR z0 z1 z2 z3 e0 e1 e2 e3 hw3 hK hL
  by_cases hK0 : K ≠ 0
  · have HAW := Lib.hid (awake_any w4 (HW.out.keep0 HK4.out))
    clear HT x0
    go_wp2_with fail
    refine HAW.out.mono ?_
    rintro e w5 ⟨rfl, k5⟩
    have HK5 := Lib.hid (HK4.out.trans k5)
    clear k5 HAW
    go_wp2_with fail
    go_ret
    exact ⟨rfl, HK5.out⟩
  · have hK1 : K = 0 := by simpa using hK0
    subst hK1
    obtain ⟨hLn, hcase⟩ := HT.out rfl
    have HLN := Lib.hid hLn
    have HF := Lib.hid (fold_any w4 (HW.out.keep0 HK4.out) s)
    clear hK0 HT
    rcases hcase with ⟨hse, hlk⟩ | ⟨hse, low, h1, h2, h3, h4, hlk⟩
    · skip
      have HLK := Lib.hid hlk
      have HPRE := Lib.hid (fun i => lookP_pre (b := L) (i := i))
      clear hlk
      subst hse
      rw [show foldB ByteArray.empty = ByteArray.empty from rfl, show foldIs ByteArray.empty = false from rfl] at HF
      go_wp2_with fail
      refine HF.out.mono ?_
      rintro e w6 ⟨rfl, k5⟩
      have HK6 := Lib.hid (HK4.out.trans k5)
      have HKA := Lib.hid k5
      have HX6 := Lib.hid (show _ ∧ _ from ⟨cell_keeps k5 HX.out.2.1 (by simp), cell_keeps k5 HX.out.2.2 (by simp)⟩)
      have x5 := cell_keeps k5 HX.out.1 (by simp)
      clear k5 HF x0
      go_wp2_with fail
      have HY := Lib.hid (show w6.drew.cell? ⟨bx + 1, 1, none⟩ = some (.slice A4 n4 c4) from HX6.out.2)
      obtain ⟨x4, hx4⟩ : ∃ x, l4.take m4 = x := ⟨_, rfl⟩
      rw [hx4] at B4
      have hx4l : x4.length ≤ 100 := by rw [← hx4, List.length_take]; omega
      have HX4 := Lib.hid hx4l
      have HLX := Lib.hid (show lookP ([] ++ L ++ x4) = (2, ByteArray.empty) from (lookP_stays L x4 (by rw [HLK.out]; simp)).trans HLK.out)
      clear hx4 hx4l
      go_upto_region 11 with fail
      go_cut [10, 11] (fun kv sv wx => kv = .int .i64 2 ∧ sv = .string ByteArray.empty ∧ Hid (Keeps [] w6 wx))
      case first =>
        go_region_held3 (fun W => W.cell? ⟨bx + 1, 1, none⟩ = some (.slice A4 n4 c4)) (first | exact HY.out | exact cell_keeps hk9 HY.out (by simp) | exact cell_keeps hk8 HY.out (by simp) | exact cell_keeps hk7 HY.out (by simp) | exact cell_keeps (Keeps.alloc [] _ _) HY.out (by simp)) (first
          | (refine step_append_B (.tmp 54) (.tmp 55) 22 rfl Tryd.underlying22 w6.drew.heap.size (Keeps.alloc [] w6.drew _).size _ _ [] (by rfl) (OwnB.new w6.drew #[] [] rfl (by simp)) _ L (by rfl) (((HO4.out.keep0 HKA.out).keep0 (Keeps.refl [] _).drew').keep0 (Keeps.alloc [] _ _)) (by have := HLN.out; simp; omega) ?_; intro v7 w7 ho7 hg7 hb7; have hk7 : Keeps [] w6.drew w7 := grow_keeps (Keeps.alloc [] w6.drew _) (OwnB.new w6.drew #[] [] rfl (by simp)) (Nat.le_refl _) hg7)
          | (refine step_append_B (.tmp 56) (.tmp 63) 22 rfl Tryd.underlying22 w6.drew.heap.size hk7.size _ _ ([] ++ L) (by rfl) ho7 _ x4 (by rfl) (B4.out.keep0 (HK6.out.drew'.trans hk7)) (by have h1 := HLN.out; have h2 := HX4.out; simp; omega) ?_; intro v8 w8 ho8 hg8 hb8; have hk8 : Keeps [] w6.drew w8 := grow_keeps hk7 ho7 (Nat.le_refl _) hg8)
          | (go_at_call 13; refine (look_B w8 (HW.out.keep0 (HK6.out.drew'.trans hk8)) v8 ([] ++ L ++ x4) (BytesV.of_own ho8) (by have h1 := HLN.out; have h2 := HX4.out; simp; omega)).mono ?_; rintro e w9 ⟨rfl, k9⟩; rw [HLX.out]; have hk9 := hk8.trans k9; have HK9 := Lib.hid (((Keeps.refl [] w6).drew'.trans hk8).trans k9)))
        all_goals
          go_wp2_with fail
          go_meet
          exact ⟨rfl, rfl, HK9⟩
      case rest =>
        obtain ⟨rfl, rfl, hkx⟩ := hcut
        have HKX := Lib.hid (HK6.out.trans hkx.out)
        have y0 := cell_keeps hkx.out HX6.out.1 (by simp)
        have HY0 := Lib.hid y0
        have HO5 := Lib.hid (HO4.out.keep0 (HKA.out.trans hkx.out))
        obtain ⟨i0, hi0⟩ : ∃ i0, ct % (L.length + 1) = i0 := ⟨_, rfl⟩
        have hi1 : i0 ≤ L.length := by have := Nat.mod_lt ct (show L.length + 1 > 0 by omega); omega
        have hLc : L.length ≤ c5 := HO5.out.form.2.1
        have hic : (i0 : Int) ≤ (c5 : Int) := by omega
        have hqe : (ct : Int) % ((L.length : Int) + 1) = (i0 : Int) := by rw [← hi0]; simp
        have hid0 : 0 ≤ (ct : Int) % ((L.length : Int) + 1) := by omega
        have hid1 : (ct : Int) % ((L.length : Int) + 1) ≤ (c5 : Int) := by omega
        have HL1 := Lib.hid (look_any wc (HW.out.keep0 HKX.out) A5 i0 c5 (L.take i0) (HO5.out.cut' hi1) (by omega))
        have HP1 := Lib.hid (HPRE.out i0)
        rw [HLK.out] at HP1
        obtain ⟨K1, hK1⟩ : ∃ K1, (lookP (L.take i0)).1 = K1 := ⟨_, rfl⟩
        obtain ⟨S1, hS1⟩ : ∃ S1, (lookP (L.take i0)).2 = S1 := ⟨_, rfl⟩
        have HE1 := Lib.hid (show K1 = 0 ∨ K1 = 2 ∧ S1 = ByteArray.empty by
          rcases HP1.out with h | h
          · exact .inl (by rw [← hK1]; exact h)
          · exact .inr ⟨by rw [← hK1, h], by rw [← hS1, h]⟩)
        rw [hK1, hS1] at HL1
        clear HLX HX4 hkx HX6 HY HKA HX HO4 HBK HBV HB2 HV2 HP1 hK1 hS1 B1 B2 B3 B4
        go_wp2_with fail
        refine HL1.out.mono ?_
        rintro e w10 ⟨rfl, k10⟩
        have HK10 := Lib.hid (HKX.out.trans k10)
        have HY10 := Lib.hid (cell_keeps k10 HY0.out (by simp))
        have HO10 := Lib.hid (HO5.out.keep0 k10)
        clear HL1 k10 y0 HY0 HO5 hi0 hi1 hid0 hic hid1 hqe
        go_upto_region 15 with fail
        go_cut [104] (fun rv wx => rv = .bool false ∧ wx = w10)
        case first =>
          rcases HE1.out with rfl | ⟨rfl, rfl⟩
          · go_wp2_with fail
            go_meet
            exact ⟨rfl, rfl⟩
          · go_wp2_with fail
            go_meet
            exact ⟨rfl, rfl⟩
        case rest =>
          obtain ⟨rfl, hwx⟩ := hcut
          obtain rfl := hwx.symm
          clear hwx
          go_wp2_with fail
          have HY12 := Lib.hid (show w10.cell? ⟨bx + 1, 0, none⟩ = some (.int .u16 ct) from HY10.out)
          have HTL := Lib.hid (fun i (h : (lookP (L.take i)).1 ≠ 0) j (hj : i ≤ j) => (show lookP (L.take j) = (2, ByteArray.empty) by
            have h1 := lookP_pre (b := L) (i := j)
            rw [HLK.out] at h1
            rcases h1 with h1 | h1
            · exfalso
              have h2 := lookP_stays (L.take i) ((L.take j).drop i) h
              have h3 : L.take i = (L.take j).take i := by rw [List.take_take, Nat.min_eq_left hj]
              rw [h3, List.take_append_drop] at h2
              rw [← h3] at h2
              exact h (by rw [← h2]; exact h1)
            · exact h1))
          go_loopw [14, 108] (fun tv iv wr => ∃ (i : Nat) (told : Bool), iv = .int .i64 (i : Nat) ∧ tv = .bool told ∧ i ≤ L.length + 1 ∧ Hid (Keeps [] w10 wr) ∧ Hid (told = true → ∀ j, i ≤ j → lookP (L.take j) = (2, ByteArray.empty)) ∧ Hid (i = L.length + 1 → told = true)) (fun _ iv _ => L.length + 1 - (intOf iv).toNat)
          case atStart => exact ⟨0, false, rfl, rfl, by omega, Lib.hid (Keeps.refl _ _), Lib.hid (fun h => by cases h), Lib.hid (fun h => by omega)⟩
          case round =>
            obtain ⟨i, told, rfl, rfl, hi, HKR, HTD, HEN⟩ := hrel
            rcases Nat.lt_or_ge L.length i with hgt | hle
            · have htold : told = true := HEN.out (by omega)
              subst htold
              have hie : i = L.length + 1 := by omega
              subst hie
              have HAW := Lib.hid (awake_any wr (HW.out.keep0 (HK10.out.trans HKR.out)))
              go_wp2_with fail
              refine HAW.out.mono ?_
              rintro e w20 ⟨rfl, k20⟩
              have HK20 := Lib.hid ((HK10.out.trans HKR.out).trans k20)
              clear k20 HAW
              go_wp2_with fail
              go_ret
              exact ⟨rfl, HK20.out⟩
            · have y12 := cell_keeps HKR.out HY12.out (by simp)
              have hic : (i : Int) ≤ (c5 : Int) := by omega
              have hi0 : (0 : Int) ≤ (i : Int) := by omega
              have hlt : (i : Int) < (L.length : Int) + 1 := by omega
              rcases (show ((i : Int) % 7 ≠ (ct : Int) % 7 ∧ i ≠ L.length) ∨ (i : Int) % 7 = (ct : Int) % 7 ∨ (i : Int) % 7 ≠ (ct : Int) % 7 ∧ i = L.length by
                by_cases h1 : (i : Int) % 7 = (ct : Int) % 7
                · exact .inr (.inl h1)
                · by_cases h2 : i = L.length
                  · exact .inr (.inr ⟨h1, h2⟩)
                  · exact .inl ⟨h1, h2⟩) with ⟨hm, hne⟩ | hm | ⟨hm, hne⟩
              · have hb1 : ((i : Int) % 7 != (ct : Int) % 7) = true := by simpa using hm
                have hb2 : ((i : Int) != (L.length : Int)) = true := by simp; omega
                have HNE := Lib.hid hne
                clear hm hne
                go_upto_region 22 with fail
                go_roundw
                case rel => exact ⟨i + 1, told, by go_num, rfl, by omega, HKR, Lib.hid (fun h j hj => HTD.out h j (by omega)), Lib.hid (fun h => absurd (show i = L.length by omega) HNE.out)⟩
                case measure => simp [intOf]; omega
              · have hb1 : ((i : Int) % 7 != (ct : Int) % 7) = false := by simpa using hm
                clear hm
                go_upto_region 22 with fail
                have HL2 := Lib.hid (look_any wr (HW.out.keep0 (HK10.out.trans HKR.out)) A5 i c5 (L.take i) ((HO10.out.keep0 HKR.out).cut' hle) (by omega))
                have HPI := Lib.hid (HPRE.out i)
                rw [HLK.out] at HPI
                have HC := Lib.hid (show told = false ∧ (lookP (L.take i)).1 = 0 ∧ i ≠ L.length ∨ lookP (L.take i) = (2, ByteArray.empty) ∧ ∀ j, i ≤ j → lookP (L.take j) = (2, ByteArray.empty) by
                  rcases HPI.out with h | h
                  · refine .inl ⟨?_, h, ?_⟩
                    · cases told with
                      | false => rfl
                      | true => rw [HTD.out rfl i (Nat.le_refl _)] at h; cases h
                    · intro he
                      rw [he, List.take_length, HLK.out] at h; cases h
                  · exact .inr ⟨h, fun j hj => HTL.out i (by rw [h]; simp) j hj⟩)
                obtain ⟨K2, hK2⟩ : ∃ K2, (lookP (L.take i)).1 = K2 := ⟨_, rfl⟩
                obtain ⟨S2, hS2⟩ : ∃ S2, (lookP (L.take i)).2 = S2 := ⟨_, rfl⟩
                rw [hK2, hS2] at HL2
                rcases HC.out with ⟨htf, hk0, hne⟩ | ⟨hkw, hj⟩
                · rw [hK2] at hk0
                  subst hk0
                  subst htf
                  have HNE := Lib.hid hne
                  clear HC HPI hK2 hS2 hne y12 hb1
                  go_wp2_with fail
                  refine HL2.out.mono ?_
                  rintro e w21 ⟨rfl, k21⟩
                  have HK21 := Lib.hid (HKR.out.trans k21)
                  clear HL2 k21 HKR
                  go_wp2_with fail
                  go_roundw
                  case rel => exact ⟨i + 1, false, by go_num, rfl, by omega, HK21, Lib.hid (fun h => by cases h), Lib.hid (fun h => absurd (show i = L.length by omega) HNE.out)⟩
                  case measure => simp [intOf]; omega
                · rw [hkw] at hK2 hS2
                  have hK2' := hK2.symm
                  have hS2' := hS2.symm
                  clear hK2 hS2
                  dsimp only at hK2' hS2'
                  subst hK2'
                  subst hS2'
                  have HJ := Lib.hid hj
                  clear HC HPI hkw hj y12 hb1
                  cases told
                  all_goals
                    go_wp2_with fail
                    refine HL2.out.mono ?_
                    rintro e w21 ⟨rfl, k21⟩
                    have HK21 := Lib.hid (HKR.out.trans k21)
                    clear HL2 k21 HKR
                    go_wp2_with fail
                    go_roundw
                    case rel => exact ⟨i + 1, true, by go_num, rfl, by omega, HK21, Lib.hid (fun _ j hj => HJ.out j (by omega)), Lib.hid (fun _ => rfl)⟩
                    case measure => simp [intOf]; omega
              · have hb1 : ((i : Int) % 7 != (ct : Int) % 7) = true := by simpa using hm
                have hb2 : ((i : Int) != (L.length : Int)) = false := by simp; omega
                clear hm hne
                go_upto_region 22 with fail
                have HL2 := Lib.hid (look_any wr (HW.out.keep0 (HK10.out.trans HKR.out)) A5 i c5 (L.take i) ((HO10.out.keep0 HKR.out).cut' hle) (by omega))
                have HPI := Lib.hid (HPRE.out i)
                rw [HLK.out] at HPI
                have HC := Lib.hid (show told = false ∧ (lookP (L.take i)).1 = 0 ∧ i ≠ L.length ∨ lookP (L.take i) = (2, ByteArray.empty) ∧ ∀ j, i ≤ j → lookP (L.take j) = (2, ByteArray.empty) by
                  rcases HPI.out with h | h
                  · refine .inl ⟨?_, h, ?_⟩
                    · cases told with
                      | false => rfl
                      | true => rw [HTD.out rfl i (Nat.le_refl _)] at h; cases h
                    · intro he
                      rw [he, List.take_length, HLK.out] at h; cases h
                  · exact .inr ⟨h, fun j hj => HTL.out i (by rw [h]; simp) j hj⟩)
                obtain ⟨K2, hK2⟩ : ∃ K2, (lookP (L.take i)).1 = K2 := ⟨_, rfl⟩
                obtain ⟨S2, hS2⟩ : ∃ S2, (lookP (L.take i)).2 = S2 := ⟨_, rfl⟩
                rw [hK2, hS2] at HL2
                rcases HC.out with ⟨htf, hk0, hne⟩ | ⟨hkw, hj⟩
                · rw [hK2] at hk0
                  subst hk0
                  subst htf
                  have HNE := Lib.hid hne
                  clear HC HPI hK2 hS2 hne y12 hb1 hb2
                  go_wp2_with fail
                  refine HL2.out.mono ?_
                  rintro e w21 ⟨rfl, k21⟩
                  have HK21 := Lib.hid (HKR.out.trans k21)
                  clear HL2 k21 HKR
                  go_wp2_with fail
                  go_roundw
                  case rel => exact ⟨i + 1, false, by go_num, rfl, by omega, HK21, Lib.hid (fun h => by cases h), Lib.hid (fun h => absurd (show i = L.length by omega) HNE.out)⟩
                  case measure => simp [intOf]; omega
                · rw [hkw] at hK2 hS2
                  have hK2' := hK2.symm
                  have hS2' := hS2.symm
                  clear hK2 hS2
                  dsimp only at hK2' hS2'
                  subst hK2'
                  subst hS2'
                  have HJ := Lib.hid hj
                  clear HC HPI hkw hj y12 hb1 hb2
                  cases told
                  all_goals
                    go_wp2_with fail
                    refine HL2.out.mono ?_
                    rintro e w21 ⟨rfl, k21⟩
                    have HK21 := Lib.hid (HKR.out.trans k21)
                    clear HL2 k21 HKR
                    go_wp2_with fail
                    go_roundw
                    case rel => exact ⟨i + 1, true, by go_num, rfl, by omega, HK21, Lib.hid (fun _ j hj => HJ.out j (by omega)), Lib.hid (fun _ => rfl)⟩
                    case measure => simp [intOf]; omega
    · skip
      have HLK := Lib.hid hlk
      have HPRE := Lib.hid (fun i => lookP_pre (b := L) (i := i))
      clear hlk
      rw [h1, h2] at HF
      have HLO := Lib.hid (And.intro h3 h4)
      have hE : s.toList.isEmpty = false := by
        rw [Lib.toList_data]
        cases h : s.data.toList with
        | nil => exact absurd (ba_nil h) hse
        | cons a l => rfl
      have hse3 : (!decide (s = ByteArray.empty)) = true := by simpa using hse
      clear h1 h2 h3 h4
      go_wp2_with fail
      refine HF.out.mono ?_
      rintro e w5 ⟨rfl, k5⟩
      have HK5 := Lib.hid (HK4.out.trans k5)
      have HK45 := Lib.hid k5
      have HX5 := Lib.hid (show _ ∧ _ ∧ _ from ⟨cell_keeps k5 HX.out.1 (by simp), cell_keeps k5 HX.out.2.1 (by simp), cell_keeps k5 HX.out.2.2 (by simp)⟩)
      have x5 := HX5.out.1
      have HLW := Lib.hid (lower_any w5 (HW.out.keep0 (HK4.out.trans k5)) s (by have := HLO.out.1; omega))
      rw [HLO.out.2] at HLW
      clear k5 HF x0
      go_wp2_with fail
      refine HLW.out.mono ?_
      rintro e w6 ⟨rfl, k6⟩
      have HK6 := Lib.hid (HK5.out.trans k6)
      have HKA := Lib.hid ((show Keeps [] w4 w5 from HK45.out).trans k6)
      have HX6 := Lib.hid (show _ ∧ _ from ⟨cell_keeps k6 HX5.out.2.1 (by simp), cell_keeps k6 HX5.out.2.2 (by simp)⟩)
      clear k6 HLW x5
      go_wp2_with fail
      have HY := Lib.hid (show w6.drew.cell? ⟨bx + 1, 1, none⟩ = some (.slice A4 n4 c4) from HX6.out.2)
      obtain ⟨x4, hx4⟩ : ∃ x, l4.take m4 = x := ⟨_, rfl⟩
      rw [hx4] at B4
      have hx4l : x4.length ≤ 100 := by rw [← hx4, List.length_take]; omega
      have HX4 := Lib.hid hx4l
      have HLX := Lib.hid (show lookP ([] ++ L ++ x4) = (1, low) from (lookP_stays L x4 (by rw [HLK.out]; simp)).trans HLK.out)
      clear hx4 hx4l
      go_upto_region 11 with fail
      go_cut [10, 11] (fun kv sv wx => kv = .int .i64 1 ∧ sv = .string low ∧ Hid (Keeps [] w6 wx))
      case first =>
        go_region_held3 (fun W => W.cell? ⟨bx + 1, 1, none⟩ = some (.slice A4 n4 c4)) (first | exact HY.out | exact cell_keeps hk9 HY.out (by simp) | exact cell_keeps hk8 HY.out (by simp) | exact cell_keeps hk7 HY.out (by simp) | exact cell_keeps (Keeps.alloc [] _ _) HY.out (by simp)) (first
          | (refine step_append_B (.tmp 54) (.tmp 55) 22 rfl Tryd.underlying22 w6.drew.heap.size (Keeps.alloc [] w6.drew _).size _ _ [] (by rfl) (OwnB.new w6.drew #[] [] rfl (by simp)) _ L (by rfl) (((HO4.out.keep0 HKA.out).keep0 (Keeps.refl [] _).drew').keep0 (Keeps.alloc [] _ _)) (by have := HLN.out; simp; omega) ?_; intro v7 w7 ho7 hg7 hb7; have hk7 : Keeps [] w6.drew w7 := grow_keeps (Keeps.alloc [] w6.drew _) (OwnB.new w6.drew #[] [] rfl (by simp)) (Nat.le_refl _) hg7)
          | (refine step_append_B (.tmp 56) (.tmp 63) 22 rfl Tryd.underlying22 w6.drew.heap.size hk7.size _ _ ([] ++ L) (by rfl) ho7 _ x4 (by rfl) (B4.out.keep0 (HK6.out.drew'.trans hk7)) (by have h1 := HLN.out; have h2 := HX4.out; simp; omega) ?_; intro v8 w8 ho8 hg8 hb8; have hk8 : Keeps [] w6.drew w8 := grow_keeps hk7 ho7 (Nat.le_refl _) hg8)
          | (go_at_call 13; refine (look_B w8 (HW.out.keep0 (HK6.out.drew'.trans hk8)) v8 ([] ++ L ++ x4) (BytesV.of_own ho8) (by have h1 := HLN.out; have h2 := HX4.out; simp; omega)).mono ?_; rintro e w9 ⟨rfl, k9⟩; rw [HLX.out]; have hk9 := hk8.trans k9; have HK9 := Lib.hid (((Keeps.refl [] w6).drew'.trans hk8).trans k9)))
        all_goals
          go_wp2_with fail
          go_meet
          exact ⟨rfl, rfl, HK9⟩
      case rest =>
        obtain ⟨rfl, rfl, hkx⟩ := hcut
        have HKX := Lib.hid (HK6.out.trans hkx.out)
        have y0 := cell_keeps hkx.out HX6.out.1 (by simp)
        have HY0 := Lib.hid y0
        have HO5 := Lib.hid (HO4.out.keep0 (HKA.out.trans hkx.out))
        obtain ⟨i0, hi0⟩ : ∃ i0, ct % (L.length + 1) = i0 := ⟨_, rfl⟩
        have hi1 : i0 ≤ L.length := by have := Nat.mod_lt ct (show L.length + 1 > 0 by omega); omega
        have hLc : L.length ≤ c5 := HO5.out.form.2.1
        have hic : (i0 : Int) ≤ (c5 : Int) := by omega
        have hqe : (ct : Int) % ((L.length : Int) + 1) = (i0 : Int) := by rw [← hi0]; simp
        have hid0 : 0 ≤ (ct : Int) % ((L.length : Int) + 1) := by omega
        have hid1 : (ct : Int) % ((L.length : Int) + 1) ≤ (c5 : Int) := by omega
        have HL1 := Lib.hid (look_any wc (HW.out.keep0 HKX.out) A5 i0 c5 (L.take i0) (HO5.out.cut' hi1) (by omega))
        have HP1 := Lib.hid (HPRE.out i0)
        rw [HLK.out] at HP1
        obtain ⟨K1, hK1⟩ : ∃ K1, (lookP (L.take i0)).1 = K1 := ⟨_, rfl⟩
        obtain ⟨S1, hS1⟩ : ∃ S1, (lookP (L.take i0)).2 = S1 := ⟨_, rfl⟩
        have HE1 := Lib.hid (show K1 = 0 ∨ K1 = 1 ∧ S1 = low by
          rcases HP1.out with h | h
          · exact .inl (by rw [← hK1]; exact h)
          · exact .inr ⟨by rw [← hK1, h], by rw [← hS1, h]⟩)
        rw [hK1, hS1] at HL1
        clear HLX HX4 hkx HX6 HY HKA HX HO4 HBK HBV HB2 HV2 HP1 hK1 hS1 B1 B2 B3 B4
        go_wp2_with fail
        refine HL1.out.mono ?_
        rintro e w10 ⟨rfl, k10⟩
        have HK10 := Lib.hid (HKX.out.trans k10)
        have HY10 := Lib.hid (cell_keeps k10 HY0.out (by simp))
        have HO10 := Lib.hid (HO5.out.keep0 k10)
        clear HL1 k10 y0 HY0 HO5 hi0 hi1 hid0 hic hid1 hqe
        go_upto_region 15 with fail
        go_cut [104] (fun rv wx => rv = .bool false ∧ wx = w10)
        case first =>
          rcases HE1.out with rfl | ⟨rfl, rfl⟩
          · go_wp2_with fail
            go_meet
            exact ⟨rfl, rfl⟩
          · go_wp2_with fail
            go_meet
            exact ⟨rfl, rfl⟩
        case rest =>
          obtain ⟨rfl, hwx⟩ := hcut
          obtain rfl := hwx.symm
          clear hwx
          go_wp2_with fail
          have HY12 := Lib.hid (show w10.cell? ⟨bx + 1, 0, none⟩ = some (.int .u16 ct) from HY10.out)
          have HTL := Lib.hid (fun i (h : (lookP (L.take i)).1 ≠ 0) j (hj : i ≤ j) => (show lookP (L.take j) = (1, low) by
            have h1 := lookP_pre (b := L) (i := j)
            rw [HLK.out] at h1
            rcases h1 with h1 | h1
            · exfalso
              have h2 := lookP_stays (L.take i) ((L.take j).drop i) h
              have h3 : L.take i = (L.take j).take i := by rw [List.take_take, Nat.min_eq_left hj]
              rw [h3, List.take_append_drop] at h2
              rw [← h3] at h2
              exact h (by rw [← h2]; exact h1)
            · exact h1))
          go_loopw [14, 108] (fun tv iv wr => ∃ (i : Nat) (told : Bool), iv = .int .i64 (i : Nat) ∧ tv = .bool told ∧ i ≤ L.length + 1 ∧ Hid (Keeps [] w10 wr) ∧ Hid (told = true → ∀ j, i ≤ j → lookP (L.take j) = (1, low)) ∧ Hid (i = L.length + 1 → told = true)) (fun _ iv _ => L.length + 1 - (intOf iv).toNat)
          case atStart => exact ⟨0, false, rfl, rfl, by omega, Lib.hid (Keeps.refl _ _), Lib.hid (fun h => by cases h), Lib.hid (fun h => by omega)⟩
          case round =>
            obtain ⟨i, told, rfl, rfl, hi, HKR, HTD, HEN⟩ := hrel
            rcases Nat.lt_or_ge L.length i with hgt | hle
            · have htold : told = true := HEN.out (by omega)
              subst htold
              have hie : i = L.length + 1 := by omega
              subst hie
              have HAW := Lib.hid (awake_any wr (HW.out.keep0 (HK10.out.trans HKR.out)))
              go_wp2_with fail
              refine HAW.out.mono ?_
              rintro e w20 ⟨rfl, k20⟩
              have HK20 := Lib.hid ((HK10.out.trans HKR.out).trans k20)
              clear k20 HAW
              go_wp2_with fail
              go_ret
              exact ⟨rfl, HK20.out⟩
            · have y12 := cell_keeps HKR.out HY12.out (by simp)
              have hic : (i : Int) ≤ (c5 : Int) := by omega
              have hi0 : (0 : Int) ≤ (i : Int) := by omega
              have hlt : (i : Int) < (L.length : Int) + 1 := by omega
              rcases (show ((i : Int) % 7 ≠ (ct : Int) % 7 ∧ i ≠ L.length) ∨ (i : Int) % 7 = (ct : Int) % 7 ∨ (i : Int) % 7 ≠ (ct : Int) % 7 ∧ i = L.length by
                by_cases h1 : (i : Int) % 7 = (ct : Int) % 7
                · exact .inr (.inl h1)
                · by_cases h2 : i = L.length
                  · exact .inr (.inr ⟨h1, h2⟩)
                  · exact .inl ⟨h1, h2⟩) with ⟨hm, hne⟩ | hm | ⟨hm, hne⟩
              · have hb1 : ((i : Int) % 7 != (ct : Int) % 7) = true := by simpa using hm
                have hb2 : ((i : Int) != (L.length : Int)) = true := by simp; omega
                have HNE := Lib.hid hne
                clear hm hne
                go_upto_region 22 with fail
                go_roundw
                case rel => exact ⟨i + 1, told, by go_num, rfl, by omega, HKR, Lib.hid (fun h j hj => HTD.out h j (by omega)), Lib.hid (fun h => absurd (show i = L.length by omega) HNE.out)⟩
                case measure => simp [intOf]; omega
              · have hb1 : ((i : Int) % 7 != (ct : Int) % 7) = false := by simpa using hm
                clear hm
                go_upto_region 22 with fail
                have HL2 := Lib.hid (look_any wr (HW.out.keep0 (HK10.out.trans HKR.out)) A5 i c5 (L.take i) ((HO10.out.keep0 HKR.out).cut' hle) (by omega))
                have HPI := Lib.hid (HPRE.out i)
                rw [HLK.out] at HPI
                have HC := Lib.hid (show told = false ∧ (lookP (L.take i)).1 = 0 ∧ i ≠ L.length ∨ lookP (L.take i) = (1, low) ∧ ∀ j, i ≤ j → lookP (L.take j) = (1, low) by
                  rcases HPI.out with h | h
                  · refine .inl ⟨?_, h, ?_⟩
                    · cases told with
                      | false => rfl
                      | true => rw [HTD.out rfl i (Nat.le_refl _)] at h; cases h
                    · intro he
                      rw [he, List.take_length, HLK.out] at h; cases h
                  · exact .inr ⟨h, fun j hj => HTL.out i (by rw [h]; simp) j hj⟩)
                obtain ⟨K2, hK2⟩ : ∃ K2, (lookP (L.take i)).1 = K2 := ⟨_, rfl⟩
                obtain ⟨S2, hS2⟩ : ∃ S2, (lookP (L.take i)).2 = S2 := ⟨_, rfl⟩
                rw [hK2, hS2] at HL2
                rcases HC.out with ⟨htf, hk0, hne⟩ | ⟨hkw, hj⟩
                · rw [hK2] at hk0
                  subst hk0
                  subst htf
                  have HNE := Lib.hid hne
                  clear HC HPI hK2 hS2 hne y12 hb1
                  go_wp2_with fail
                  refine HL2.out.mono ?_
                  rintro e w21 ⟨rfl, k21⟩
                  have HK21 := Lib.hid (HKR.out.trans k21)
                  clear HL2 k21 HKR
                  go_wp2_with fail
                  go_roundw
                  case rel => exact ⟨i + 1, false, by go_num, rfl, by omega, HK21, Lib.hid (fun h => by cases h), Lib.hid (fun h => absurd (show i = L.length by omega) HNE.out)⟩
                  case measure => simp [intOf]; omega
                · rw [hkw] at hK2 hS2
                  have hK2' := hK2.symm
                  have hS2' := hS2.symm
                  clear hK2 hS2
                  dsimp only at hK2' hS2'
                  subst hK2'
                  subst hS2'
                  have HJ := Lib.hid hj
                  clear HC HPI hkw hj y12 hb1
                  cases told
                  all_goals
                    go_wp2_with fail
                    refine HL2.out.mono ?_
                    rintro e w21 ⟨rfl, k21⟩
                    have HK21 := Lib.hid (HKR.out.trans k21)
                    clear HL2 k21 HKR
                    go_wp2_with fail
                    go_roundw
                    case rel => exact ⟨i + 1, true, by go_num, rfl, by omega, HK21, Lib.hid (fun _ j hj => HJ.out j (by omega)), Lib.hid (fun _ => rfl)⟩
                    case measure => simp [intOf]; omega
              · have hb1 : ((i : Int) % 7 != (ct : Int) % 7) = true := by simpa using hm
                have hb2 : ((i : Int) != (L.length : Int)) = false := by simp; omega
                clear hm hne
                go_upto_region 22 with fail
                have HL2 := Lib.hid (look_any wr (HW.out.keep0 (HK10.out.trans HKR.out)) A5 i c5 (L.take i) ((HO10.out.keep0 HKR.out).cut' hle) (by omega))
                have HPI := Lib.hid (HPRE.out i)
                rw [HLK.out] at HPI
                have HC := Lib.hid (show told = false ∧ (lookP (L.take i)).1 = 0 ∧ i ≠ L.length ∨ lookP (L.take i) = (1, low) ∧ ∀ j, i ≤ j → lookP (L.take j) = (1, low) by
                  rcases HPI.out with h | h
                  · refine .inl ⟨?_, h, ?_⟩
                    · cases told with
                      | false => rfl
                      | true => rw [HTD.out rfl i (Nat.le_refl _)] at h; cases h
                    · intro he
                      rw [he, List.take_length, HLK.out] at h; cases h
                  · exact .inr ⟨h, fun j hj => HTL.out i (by rw [h]; simp) j hj⟩)
                obtain ⟨K2, hK2⟩ : ∃ K2, (lookP (L.take i)).1 = K2 := ⟨_, rfl⟩
                obtain ⟨S2, hS2⟩ : ∃ S2, (lookP (L.take i)).2 = S2 := ⟨_, rfl⟩
                rw [hK2, hS2] at HL2
                rcases HC.out with ⟨htf, hk0, hne⟩ | ⟨hkw, hj⟩
                · rw [hK2] at hk0
                  subst hk0
                  subst htf
                  have HNE := Lib.hid hne
                  clear HC HPI hK2 hS2 hne y12 hb1 hb2
                  go_wp2_with fail
                  refine HL2.out.mono ?_
                  rintro e w21 ⟨rfl, k21⟩
                  have HK21 := Lib.hid (HKR.out.trans k21)
                  clear HL2 k21 HKR
                  go_wp2_with fail
                  go_roundw
                  case rel => exact ⟨i + 1, false, by go_num, rfl, by omega, HK21, Lib.hid (fun h => by cases h), Lib.hid (fun h => absurd (show i = L.length by omega) HNE.out)⟩
                  case measure => simp [intOf]; omega
                · rw [hkw] at hK2 hS2
                  have hK2' := hK2.symm
                  have hS2' := hS2.symm
                  clear hK2 hS2
                  dsimp only at hK2' hS2'
                  subst hK2'
                  subst hS2'
                  have HJ := Lib.hid hj
                  clear HC HPI hkw hj y12 hb1 hb2
                  cases told
                  all_goals
                    go_wp2_with fail
                    refine HL2.out.mono ?_
                    rintro e w21 ⟨rfl, k21⟩
                    have HK21 := Lib.hid (HKR.out.trans k21)
                    clear HL2 k21 HKR
                    go_wp2_with fail
                    go_roundw
                    case rel => exact ⟨i + 1, true, by go_num, rfl, by omega, HK21, Lib.hid (fun _ j hj => HJ.out j (by omega)), Lib.hid (fun _ => rfl)⟩
                    case measure => simp [intOf]; omega
end Go.Proofs.YthcpeceamiibaaaDoor
