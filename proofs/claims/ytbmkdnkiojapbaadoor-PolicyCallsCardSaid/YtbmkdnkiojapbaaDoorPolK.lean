/-
  The walk of the helper law wakes: it returns true and leaves what was there (printed by tools/gen_polk.py). Condition: the library's tables lie as the row lists them.
-/
import Derived.Test.YtbmkdnkiojapbaaDoorPolJ
namespace Go.Proofs.YtbmkdnkiojapbaaDoor
open Go.RowKit Go.Lib
set_option linter.unusedVariables false
set_option linter.unusedSimpArgs false

theorem may0 : mayL pc0 rules0 = true := by
  simp only [mayL, mayGo, rules0, namedOk, foldIs_eq, foldB_eq]
  kernel_rfl

theorem find0_0 : findT (tabL rules0) (foldB ⟨#[65, 46, 101, 120, 97, 109, 112, 108, 101]⟩) = some ⟨⟨#[97, 46, 101, 120, 97, 109, 112, 108, 101]⟩, false, 16843009, 1⟩ := by
  rw [foldB_eq]
  kernel_rfl

theorem find0_1 : findT (tabL rules0) (foldB ⟨#[120, 46, 97, 46, 101, 120, 97, 109, 112, 108, 101]⟩) = some ⟨⟨#[42, 46, 101, 120, 97, 109, 112, 108, 101]⟩, false, 33686018, 2⟩ := by
  rw [foldB_eq]
  kernel_rfl

theorem find0_2 : findT (tabL rules0) (foldB ⟨#[120, 46, 98, 46, 101, 120, 97, 109, 112, 108, 101]⟩) = some ⟨⟨#[42, 46, 98, 46, 101, 120, 97, 109, 112, 108, 101]⟩, true, 0, 0⟩ := by
  rw [foldB_eq]
  kernel_rfl

theorem find0_3 : findT (tabL rules0) (foldB ⟨#[98, 46, 101, 120, 97, 109, 112, 108, 101]⟩) = some ⟨⟨#[42, 46, 101, 120, 97, 109, 112, 108, 101]⟩, false, 33686018, 2⟩ := by
  rw [foldB_eq]
  kernel_rfl

theorem find0_4 : findT (tabL rules0) (foldB ⟨#[101, 120, 97, 109, 112, 108, 101]⟩) = some ⟨⟨#[]⟩, false, 50529027, 3⟩ := by
  rw [foldB_eq]
  kernel_rfl

theorem find0_5 : findT (tabL rules0) (foldB ⟨#[]⟩) = some ⟨⟨#[]⟩, false, 50529027, 3⟩ := by
  rw [foldB_eq]
  kernel_rfl

theorem index0_0 (W : World) : (Instr.index 64 (.agg #[.string ⟨#[65, 46, 101, 120, 97, 109, 112, 108, 101]⟩, .string ⟨#[120, 46, 97, 46, 101, 120, 97, 109, 112, 108, 101]⟩, .string ⟨#[120, 46, 98, 46, 101, 120, 97, 109, 112, 108, 101]⟩, .string ⟨#[98, 46, 101, 120, 97, 109, 112, 108, 101]⟩, .string ⟨#[101, 120, 97, 109, 112, 108, 101]⟩, .string ⟨#[]⟩]) (.int .i64 0)).run Tryd.prog W = .ok (.string ⟨#[65, 46, 101, 120, 97, 109, 112, 108, 101]⟩) W := by
  simp [Instr.index, run_underlying Tryd.underlying64, asIntOf, go_sem, Tryd.isAgg9, Tryd.sizeOf9]

theorem index0_1 (W : World) : (Instr.index 64 (.agg #[.string ⟨#[65, 46, 101, 120, 97, 109, 112, 108, 101]⟩, .string ⟨#[120, 46, 97, 46, 101, 120, 97, 109, 112, 108, 101]⟩, .string ⟨#[120, 46, 98, 46, 101, 120, 97, 109, 112, 108, 101]⟩, .string ⟨#[98, 46, 101, 120, 97, 109, 112, 108, 101]⟩, .string ⟨#[101, 120, 97, 109, 112, 108, 101]⟩, .string ⟨#[]⟩]) (.int .i64 1)).run Tryd.prog W = .ok (.string ⟨#[120, 46, 97, 46, 101, 120, 97, 109, 112, 108, 101]⟩) W := by
  simp [Instr.index, run_underlying Tryd.underlying64, asIntOf, go_sem, Tryd.isAgg9, Tryd.sizeOf9]

theorem index0_2 (W : World) : (Instr.index 64 (.agg #[.string ⟨#[65, 46, 101, 120, 97, 109, 112, 108, 101]⟩, .string ⟨#[120, 46, 97, 46, 101, 120, 97, 109, 112, 108, 101]⟩, .string ⟨#[120, 46, 98, 46, 101, 120, 97, 109, 112, 108, 101]⟩, .string ⟨#[98, 46, 101, 120, 97, 109, 112, 108, 101]⟩, .string ⟨#[101, 120, 97, 109, 112, 108, 101]⟩, .string ⟨#[]⟩]) (.int .i64 2)).run Tryd.prog W = .ok (.string ⟨#[120, 46, 98, 46, 101, 120, 97, 109, 112, 108, 101]⟩) W := by
  simp [Instr.index, run_underlying Tryd.underlying64, asIntOf, go_sem, Tryd.isAgg9, Tryd.sizeOf9]

theorem index0_3 (W : World) : (Instr.index 64 (.agg #[.string ⟨#[65, 46, 101, 120, 97, 109, 112, 108, 101]⟩, .string ⟨#[120, 46, 97, 46, 101, 120, 97, 109, 112, 108, 101]⟩, .string ⟨#[120, 46, 98, 46, 101, 120, 97, 109, 112, 108, 101]⟩, .string ⟨#[98, 46, 101, 120, 97, 109, 112, 108, 101]⟩, .string ⟨#[101, 120, 97, 109, 112, 108, 101]⟩, .string ⟨#[]⟩]) (.int .i64 3)).run Tryd.prog W = .ok (.string ⟨#[98, 46, 101, 120, 97, 109, 112, 108, 101]⟩) W := by
  simp [Instr.index, run_underlying Tryd.underlying64, asIntOf, go_sem, Tryd.isAgg9, Tryd.sizeOf9]

theorem index0_4 (W : World) : (Instr.index 64 (.agg #[.string ⟨#[65, 46, 101, 120, 97, 109, 112, 108, 101]⟩, .string ⟨#[120, 46, 97, 46, 101, 120, 97, 109, 112, 108, 101]⟩, .string ⟨#[120, 46, 98, 46, 101, 120, 97, 109, 112, 108, 101]⟩, .string ⟨#[98, 46, 101, 120, 97, 109, 112, 108, 101]⟩, .string ⟨#[101, 120, 97, 109, 112, 108, 101]⟩, .string ⟨#[]⟩]) (.int .i64 4)).run Tryd.prog W = .ok (.string ⟨#[101, 120, 97, 109, 112, 108, 101]⟩) W := by
  simp [Instr.index, run_underlying Tryd.underlying64, asIntOf, go_sem, Tryd.isAgg9, Tryd.sizeOf9]

theorem index0_5 (W : World) : (Instr.index 64 (.agg #[.string ⟨#[65, 46, 101, 120, 97, 109, 112, 108, 101]⟩, .string ⟨#[120, 46, 97, 46, 101, 120, 97, 109, 112, 108, 101]⟩, .string ⟨#[120, 46, 98, 46, 101, 120, 97, 109, 112, 108, 101]⟩, .string ⟨#[98, 46, 101, 120, 97, 109, 112, 108, 101]⟩, .string ⟨#[101, 120, 97, 109, 112, 108, 101]⟩, .string ⟨#[]⟩]) (.int .i64 5)).run Tryd.prog W = .ok (.string ⟨#[]⟩) W := by
  simp [Instr.index, run_underlying Tryd.underlying64, asIntOf, go_sem, Tryd.isAgg9, Tryd.sizeOf9]

set_option maxRecDepth 100000 in
set_option maxHeartbeats 8000000 in
theorem wakes_any (w : World) (hw : LW w) : Calls Tryd.prog 10 #[] w fun e w' => e = .returned (.bool true) ∧ Keeps [] w w' := by
  have HW := Lib.hid hw
  clear hw
  go_enter Tryd.func10, Tryd.ntmps10
  go_wp2_with fail
  refine (config_any w).mono ?_
  rintro e w1 ⟨rfl, k1⟩
  have K1 := Lib.hid k1
  clear k1
  go_wp2_with fail
  refine (rules_any w1).mono ?_
  rintro e w2 ⟨rb, rfl, hr2, k2⟩
  have K2 := Lib.hid (K1.out.trans k2)
  have HR2 := Lib.hid hr2
  clear k2 hr2 K1
  go_wp2_with fail
  refine (new_ok w2 (HW.out.keep0 K2.out) pc0 pcr0 _ 4 4 rules0 rfl HR2.out (by decide) may0).mono ?_
  rintro e w3 ⟨tb, mb, rfl, ht3, k3, hs1, hs2⟩
  have K3 := Lib.hid (K2.out.trans k3)
  have HT3 := Lib.hid ht3
  clear k3 ht3 hs1 hs2 K2 HR2
  go_wp2_with fail
  refine wp_gn fun w4 hw4 => ?_
  have k4 : Keeps [] w3 w4 := by rw [hw4]; exact Keeps.alloc [] w3 _
  have hb4 : w4.heap[w3.heap.size]? = some (.cells #[.int .u16 1, .int .u16 2, .int .u16 0, .int .u16 2, .int .u16 3, .int .u16 3] 63 (0, 0)) := by rw [hw4]; exact (MapKept.heap_alloc w3 _).1
  obtain ⟨ab, hab⟩ : ∃ ab, w3.heap.size = ab := ⟨_, rfl⟩
  rw [hab] at hb4 ⊢
  have HB4 := Lib.hid hb4
  have K4 := Lib.hid (K3.out.trans k4)
  have HT4 := Lib.hid (HT3.out.keep0 k4)
  clear hw4 k4 hb4 hab HT3 K3
  go_loopw [18] (fun iv wr => ∃ i : Nat, iv = .int .i64 i ∧ i ≤ 6 ∧ Keeps [] w4 wr) (fun iv _ => 6 - (intOf iv).toNat)
  case atStart => exact ⟨0, rfl, by omega, Keeps.refl _ _⟩
  case round =>
    obtain ⟨i, rfl, hi, hkp⟩ := hrel
    have KP := Lib.hid (K4.out.trans hkp)
    have HTR := Lib.hid (HT4.out.keep0 hkp)
    have HBR := Lib.hid ((hkp.block ab (lt_of_block HB4.out) (by simp)).trans HB4.out)
    have HKP := Lib.hid hkp
    clear hkp
    have h7 : i = 0 ∨ i = 1 ∨ i = 2 ∨ i = 3 ∨ i = 4 ∨ i = 5 ∨ i = 6 := by omega
    rcases h7 with rfl | rfl | rfl | rfl | rfl | rfl | rfl
    · have hix := index0_0 wr
      go_wp2_with fail
      clear hix
      have HF := find_any wr (HW.out.keep0 KP.out) tb mb _ HTR.out ⟨#[65, 46, 101, 120, 97, 109, 112, 108, 101]⟩
      rw [find0_0] at HF
      simp only [Option.getD_some, Option.isSome_some, encPR] at HF
      refine HF.mono ?_
      clear HF
      rintro e w5 ⟨rfl, k5⟩
      have K5 := Lib.hid (HKP.out.trans k5)
      have HB5 := Lib.hid ((k5.block ab (lt_of_block HBR.out) (by simp)).trans HBR.out)
      clear k5
      go_wp2_with fail
      refine wp_gn fun wg hwg => ?_
      have kg : Keeps [] w5 wg := by rw [hwg]; exact Keeps.alloc [] w5 _
      have hb1 : wg.heap[w5.heap.size]? = some (.cells #[.string ⟨#[97, 46, 101, 120, 97, 109, 112, 108, 101]⟩, .bool false, .int .u32 16843009, .int .u16 1] 35 (0, 0)) := by rw [hwg]; exact (MapKept.heap_alloc w5 _).1
      have hb2 := (kg.block ab (lt_of_block HB5.out) (by simp)).trans HB5.out
      obtain ⟨nb, hnb⟩ : ∃ nb, w5.heap.size = nb := ⟨_, rfl⟩
      rw [hnb] at hb1 ⊢
      have S1 := Lib.hid (show wg.drew.cell? ⟨nb, 1, none⟩ = some (.bool false) ∧ wg.drew.cell? ⟨nb, 3, none⟩ = some (.int .u16 1) ∧ wg.drew.cell? ⟨ab, 0, none⟩ = some (.int .u16 1) from ⟨cell_of_block (w := wg.drew) hb1 1, cell_of_block (w := wg.drew) hb1 3, cell_of_block (w := wg.drew) hb2 0⟩)
      have KG := Lib.hid (K5.out.trans kg)
      clear hwg kg hb1 hb2 hnb
      go_region_held3 (fun w' => w'.cell? ⟨nb, 1, none⟩ = some (.bool false) ∧ w'.cell? ⟨nb, 3, none⟩ = some (.int .u16 1) ∧ w'.cell? ⟨ab, 0, none⟩ = some (.int .u16 1))
        (exact S1.out)
        (fail)
      go_wp2_with fail
      exact ⟨⟨1, by simp, by omega, KG.out.trans (Keeps.drew _ _)⟩, by simp [intOf]⟩
    · have hix := index0_1 wr
      go_wp2_with fail
      clear hix
      have HF := find_any wr (HW.out.keep0 KP.out) tb mb _ HTR.out ⟨#[120, 46, 97, 46, 101, 120, 97, 109, 112, 108, 101]⟩
      rw [find0_1] at HF
      simp only [Option.getD_some, Option.isSome_some, encPR] at HF
      refine HF.mono ?_
      clear HF
      rintro e w5 ⟨rfl, k5⟩
      have K5 := Lib.hid (HKP.out.trans k5)
      have HB5 := Lib.hid ((k5.block ab (lt_of_block HBR.out) (by simp)).trans HBR.out)
      clear k5
      go_wp2_with fail
      refine wp_gn fun wg hwg => ?_
      have kg : Keeps [] w5 wg := by rw [hwg]; exact Keeps.alloc [] w5 _
      have hb1 : wg.heap[w5.heap.size]? = some (.cells #[.string ⟨#[42, 46, 101, 120, 97, 109, 112, 108, 101]⟩, .bool false, .int .u32 33686018, .int .u16 2] 35 (0, 0)) := by rw [hwg]; exact (MapKept.heap_alloc w5 _).1
      have hb2 := (kg.block ab (lt_of_block HB5.out) (by simp)).trans HB5.out
      obtain ⟨nb, hnb⟩ : ∃ nb, w5.heap.size = nb := ⟨_, rfl⟩
      rw [hnb] at hb1 ⊢
      have S1 := Lib.hid (show wg.drew.cell? ⟨nb, 1, none⟩ = some (.bool false) ∧ wg.drew.cell? ⟨nb, 3, none⟩ = some (.int .u16 2) ∧ wg.drew.cell? ⟨ab, 1, none⟩ = some (.int .u16 2) from ⟨cell_of_block (w := wg.drew) hb1 1, cell_of_block (w := wg.drew) hb1 3, cell_of_block (w := wg.drew) hb2 1⟩)
      have KG := Lib.hid (K5.out.trans kg)
      clear hwg kg hb1 hb2 hnb
      go_region_held3 (fun w' => w'.cell? ⟨nb, 1, none⟩ = some (.bool false) ∧ w'.cell? ⟨nb, 3, none⟩ = some (.int .u16 2) ∧ w'.cell? ⟨ab, 1, none⟩ = some (.int .u16 2))
        (exact S1.out)
        (fail)
      go_wp2_with fail
      exact ⟨⟨2, by simp, by omega, KG.out.trans (Keeps.drew _ _)⟩, by simp [intOf]⟩
    · have hix := index0_2 wr
      go_wp2_with fail
      clear hix
      have HF := find_any wr (HW.out.keep0 KP.out) tb mb _ HTR.out ⟨#[120, 46, 98, 46, 101, 120, 97, 109, 112, 108, 101]⟩
      rw [find0_2] at HF
      simp only [Option.getD_some, Option.isSome_some, encPR] at HF
      refine HF.mono ?_
      clear HF
      rintro e w5 ⟨rfl, k5⟩
      have K5 := Lib.hid (HKP.out.trans k5)
      have HB5 := Lib.hid ((k5.block ab (lt_of_block HBR.out) (by simp)).trans HBR.out)
      clear k5
      go_wp2_with fail
      refine wp_gn fun wg hwg => ?_
      have kg : Keeps [] w5 wg := by rw [hwg]; exact Keeps.alloc [] w5 _
      have hb1 : wg.heap[w5.heap.size]? = some (.cells #[.string ⟨#[42, 46, 98, 46, 101, 120, 97, 109, 112, 108, 101]⟩, .bool true, .int .u32 0, .int .u16 0] 35 (0, 0)) := by rw [hwg]; exact (MapKept.heap_alloc w5 _).1
      have hb2 := (kg.block ab (lt_of_block HB5.out) (by simp)).trans HB5.out
      obtain ⟨nb, hnb⟩ : ∃ nb, w5.heap.size = nb := ⟨_, rfl⟩
      rw [hnb] at hb1 ⊢
      have S1 := Lib.hid (show wg.drew.cell? ⟨nb, 1, none⟩ = some (.bool true) ∧ wg.drew.cell? ⟨nb, 3, none⟩ = some (.int .u16 0) ∧ wg.drew.cell? ⟨ab, 2, none⟩ = some (.int .u16 0) from ⟨cell_of_block (w := wg.drew) hb1 1, cell_of_block (w := wg.drew) hb1 3, cell_of_block (w := wg.drew) hb2 2⟩)
      have KG := Lib.hid (K5.out.trans kg)
      clear hwg kg hb1 hb2 hnb
      go_region_held3 (fun w' => w'.cell? ⟨nb, 1, none⟩ = some (.bool true) ∧ w'.cell? ⟨nb, 3, none⟩ = some (.int .u16 0) ∧ w'.cell? ⟨ab, 2, none⟩ = some (.int .u16 0))
        (exact S1.out)
        (fail)
      go_wp2_with fail
      exact ⟨⟨3, by simp, by omega, KG.out.trans (Keeps.drew _ _)⟩, by simp [intOf]⟩
    · have hix := index0_3 wr
      go_wp2_with fail
      clear hix
      have HF := find_any wr (HW.out.keep0 KP.out) tb mb _ HTR.out ⟨#[98, 46, 101, 120, 97, 109, 112, 108, 101]⟩
      rw [find0_3] at HF
      simp only [Option.getD_some, Option.isSome_some, encPR] at HF
      refine HF.mono ?_
      clear HF
      rintro e w5 ⟨rfl, k5⟩
      have K5 := Lib.hid (HKP.out.trans k5)
      have HB5 := Lib.hid ((k5.block ab (lt_of_block HBR.out) (by simp)).trans HBR.out)
      clear k5
      go_wp2_with fail
      refine wp_gn fun wg hwg => ?_
      have kg : Keeps [] w5 wg := by rw [hwg]; exact Keeps.alloc [] w5 _
      have hb1 : wg.heap[w5.heap.size]? = some (.cells #[.string ⟨#[42, 46, 101, 120, 97, 109, 112, 108, 101]⟩, .bool false, .int .u32 33686018, .int .u16 2] 35 (0, 0)) := by rw [hwg]; exact (MapKept.heap_alloc w5 _).1
      have hb2 := (kg.block ab (lt_of_block HB5.out) (by simp)).trans HB5.out
      obtain ⟨nb, hnb⟩ : ∃ nb, w5.heap.size = nb := ⟨_, rfl⟩
      rw [hnb] at hb1 ⊢
      have S1 := Lib.hid (show wg.drew.cell? ⟨nb, 1, none⟩ = some (.bool false) ∧ wg.drew.cell? ⟨nb, 3, none⟩ = some (.int .u16 2) ∧ wg.drew.cell? ⟨ab, 3, none⟩ = some (.int .u16 2) from ⟨cell_of_block (w := wg.drew) hb1 1, cell_of_block (w := wg.drew) hb1 3, cell_of_block (w := wg.drew) hb2 3⟩)
      have KG := Lib.hid (K5.out.trans kg)
      clear hwg kg hb1 hb2 hnb
      go_region_held3 (fun w' => w'.cell? ⟨nb, 1, none⟩ = some (.bool false) ∧ w'.cell? ⟨nb, 3, none⟩ = some (.int .u16 2) ∧ w'.cell? ⟨ab, 3, none⟩ = some (.int .u16 2))
        (exact S1.out)
        (fail)
      go_wp2_with fail
      exact ⟨⟨4, by simp, by omega, KG.out.trans (Keeps.drew _ _)⟩, by simp [intOf]⟩
    · have hix := index0_4 wr
      go_wp2_with fail
      clear hix
      have HF := find_any wr (HW.out.keep0 KP.out) tb mb _ HTR.out ⟨#[101, 120, 97, 109, 112, 108, 101]⟩
      rw [find0_4] at HF
      simp only [Option.getD_some, Option.isSome_some, encPR] at HF
      refine HF.mono ?_
      clear HF
      rintro e w5 ⟨rfl, k5⟩
      have K5 := Lib.hid (HKP.out.trans k5)
      have HB5 := Lib.hid ((k5.block ab (lt_of_block HBR.out) (by simp)).trans HBR.out)
      clear k5
      go_wp2_with fail
      refine wp_gn fun wg hwg => ?_
      have kg : Keeps [] w5 wg := by rw [hwg]; exact Keeps.alloc [] w5 _
      have hb1 : wg.heap[w5.heap.size]? = some (.cells #[.string ⟨#[]⟩, .bool false, .int .u32 50529027, .int .u16 3] 35 (0, 0)) := by rw [hwg]; exact (MapKept.heap_alloc w5 _).1
      have hb2 := (kg.block ab (lt_of_block HB5.out) (by simp)).trans HB5.out
      obtain ⟨nb, hnb⟩ : ∃ nb, w5.heap.size = nb := ⟨_, rfl⟩
      rw [hnb] at hb1 ⊢
      have S1 := Lib.hid (show wg.drew.cell? ⟨nb, 1, none⟩ = some (.bool false) ∧ wg.drew.cell? ⟨nb, 3, none⟩ = some (.int .u16 3) ∧ wg.drew.cell? ⟨ab, 4, none⟩ = some (.int .u16 3) from ⟨cell_of_block (w := wg.drew) hb1 1, cell_of_block (w := wg.drew) hb1 3, cell_of_block (w := wg.drew) hb2 4⟩)
      have KG := Lib.hid (K5.out.trans kg)
      clear hwg kg hb1 hb2 hnb
      go_region_held3 (fun w' => w'.cell? ⟨nb, 1, none⟩ = some (.bool false) ∧ w'.cell? ⟨nb, 3, none⟩ = some (.int .u16 3) ∧ w'.cell? ⟨ab, 4, none⟩ = some (.int .u16 3))
        (exact S1.out)
        (fail)
      go_wp2_with fail
      exact ⟨⟨5, by simp, by omega, KG.out.trans (Keeps.drew _ _)⟩, by simp [intOf]⟩
    · have hix := index0_5 wr
      go_wp2_with fail
      clear hix
      have HF := find_any wr (HW.out.keep0 KP.out) tb mb _ HTR.out ⟨#[]⟩
      rw [find0_5] at HF
      simp only [Option.getD_some, Option.isSome_some, encPR] at HF
      refine HF.mono ?_
      clear HF
      rintro e w5 ⟨rfl, k5⟩
      have K5 := Lib.hid (HKP.out.trans k5)
      have HB5 := Lib.hid ((k5.block ab (lt_of_block HBR.out) (by simp)).trans HBR.out)
      clear k5
      go_wp2_with fail
      refine wp_gn fun wg hwg => ?_
      have kg : Keeps [] w5 wg := by rw [hwg]; exact Keeps.alloc [] w5 _
      have hb1 : wg.heap[w5.heap.size]? = some (.cells #[.string ⟨#[]⟩, .bool false, .int .u32 50529027, .int .u16 3] 35 (0, 0)) := by rw [hwg]; exact (MapKept.heap_alloc w5 _).1
      have hb2 := (kg.block ab (lt_of_block HB5.out) (by simp)).trans HB5.out
      obtain ⟨nb, hnb⟩ : ∃ nb, w5.heap.size = nb := ⟨_, rfl⟩
      rw [hnb] at hb1 ⊢
      have S1 := Lib.hid (show wg.drew.cell? ⟨nb, 1, none⟩ = some (.bool false) ∧ wg.drew.cell? ⟨nb, 3, none⟩ = some (.int .u16 3) ∧ wg.drew.cell? ⟨ab, 5, none⟩ = some (.int .u16 3) from ⟨cell_of_block (w := wg.drew) hb1 1, cell_of_block (w := wg.drew) hb1 3, cell_of_block (w := wg.drew) hb2 5⟩)
      have KG := Lib.hid (K5.out.trans kg)
      clear hwg kg hb1 hb2 hnb
      go_region_held3 (fun w' => w'.cell? ⟨nb, 1, none⟩ = some (.bool false) ∧ w'.cell? ⟨nb, 3, none⟩ = some (.int .u16 3) ∧ w'.cell? ⟨ab, 5, none⟩ = some (.int .u16 3))
        (exact S1.out)
        (fail)
      go_wp2_with fail
      exact ⟨⟨6, by simp, by omega, KG.out.trans (Keeps.drew _ _)⟩, by simp [intOf]⟩
    · go_wp2_with fail
      go_ret
      exact ⟨rfl, KP.out⟩
end Go.Proofs.YtbmkdnkiojapbaaDoor
