/-
  The walk of policy's Where. Condition: the library's tables lie as the row lists them; the table lies in memory.
-/
import Derived.Test.YtbmkdnkiojapbaaDoorPolF
namespace Go.Proofs.YtbmkdnkiojapbaaDoor
open Go.RowKit Go.Lib
set_option linter.unusedVariables false
set_option linter.unusedSimpArgs false

/-- where a rule leads: the address, the port, the error -/
def whereT : Option PR → Int × Int × Int
  | none => (0, 0, 6)
  | some r => if r.deny then (0, 0, 26) else (r.addr, r.port, 0)
set_option maxRecDepth 100000 in
set_option maxHeartbeats 4000000 in
theorem where_any (w : World) (hw : LW w) (tb mb : Nat) (T : List (ByteArray × PR)) (ht : TabAt w tb mb T) (name : ByteArray) :
    Calls Tryd.prog 14 #[.pointer (some ⟨tb, 0, none⟩), .string name] w fun e w' => e = .returned (.tuple #[.int .u32 (whereT (findT T (foldB name))).1, .int .u16 (whereT (findT T (foldB name))).2.1, .int .i64 (whereT (findT T (foldB name))).2.2]) ∧ Keeps [] w w' := by
  have HF := Lib.hid (find_any w hw tb mb T ht name)
  clear hw ht
  obtain ⟨o, ho⟩ : ∃ o, findT T (foldB name) = o := ⟨_, rfl⟩
  rw [ho] at HF ⊢
  clear ho
  cases o with
  | none =>
    simp only [Option.getD_none, Option.isSome_none, encPR, zeroPR] at HF
    simp only [whereT]
    go_enter Tryd.func14, Tryd.ntmps14
    go_wp2_with fail
    refine HF.out.mono ?_
    rintro e w1 ⟨rfl, k1⟩
    have K1 := Lib.hid k1
    clear k1
    go_wp2_with fail
    refine bodyPost_ret (v := .tuple #[.int .u32 0, .int .u16 0, .int .i64 6]) (by simp [results, Tryd.results14, go_sem]) rfl ⟨rfl, K1.out.trans (Keeps.alloc _ _ _)⟩
  | some x =>
    obtain ⟨xn, xd, xa, xp⟩ := x
    simp only [Option.getD_some, Option.isSome_some, encPR] at HF
    cases xd with
    | true =>
      simp only [whereT, if_true]
      go_enter Tryd.func14, Tryd.ntmps14
      go_wp2_with fail
      refine HF.out.mono ?_
      rintro e w1 ⟨rfl, k1⟩
      have K1 := Lib.hid k1
      clear k1
      go_wp2_with fail
      refine bodyPost_ret (v := .tuple #[.int .u32 0, .int .u16 0, .int .i64 26]) (by simp [results, Tryd.results14, go_sem]) rfl ⟨rfl, K1.out.trans (Keeps.alloc _ _ _)⟩
    | false =>
      simp only [whereT, if_neg (by decide : ¬ (false = true))]
      go_enter Tryd.func14, Tryd.ntmps14
      go_wp2_with fail
      refine HF.out.mono ?_
      rintro e w1 ⟨rfl, k1⟩
      have K1 := Lib.hid k1
      clear k1
      go_wp2_with fail
      refine wp_gn fun wg hwg => ?_
      have kg : Keeps [] w1 wg := by rw [hwg]; exact Keeps.alloc [] w1 _
      have hb1 : wg.heap[w1.heap.size]? = some (.cells #[.string xn, .bool false, .int .u32 xa, .int .u16 xp] 35 (0, 0)) := by rw [hwg]; exact (MapKept.heap_alloc w1 _).1
      obtain ⟨nb, hnb⟩ : ∃ nb, w1.heap.size = nb := ⟨_, rfl⟩
      rw [hnb] at hb1 ⊢
      have S1 := Lib.hid (show wg.drew.cell? ⟨nb, 2, none⟩ = some (.int .u32 xa) ∧ wg.drew.cell? ⟨nb, 3, none⟩ = some (.int .u16 xp) from ⟨cell_of_block (w := wg.drew) hb1 2, cell_of_block (w := wg.drew) hb1 3⟩)
      have KG := Lib.hid (K1.out.trans kg)
      clear hwg kg hb1 hnb
      go_region_held3 (fun w' => w'.cell? ⟨nb, 2, none⟩ = some (.int .u32 xa) ∧ w'.cell? ⟨nb, 3, none⟩ = some (.int .u16 xp))
        (exact S1.out)
        (fail)
      go_wp2_with fail
      refine bodyPost_ret (v := .tuple #[.int .u32 xa, .int .u16 xp, .int .i64 0]) (by simp [results, Tryd.results14, go_sem]) rfl ⟨rfl, KG.out.trans (Keeps.drew _ _)⟩
end Go.Proofs.YtbmkdnkiojapbaaDoor
