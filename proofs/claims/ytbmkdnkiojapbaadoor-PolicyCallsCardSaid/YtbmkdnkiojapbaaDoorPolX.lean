/-
  The walks of policy's calls at no table. No condition.
-/
import Derived.Test.YtbmkdnkiojapbaaDoorPolV
namespace Go.Proofs.YtbmkdnkiojapbaaDoor
open Go.RowKit Go.Lib
set_option linter.unusedVariables false
set_option linter.unusedSimpArgs false

set_option maxRecDepth 100000 in
set_option maxHeartbeats 2000000 in
theorem find_nil (w : World) (name : ByteArray) : Calls Tryd.prog 13 #[.pointer none, .string name] w fun e w' => e = .returned (.tuple #[encPR zeroPR, .bool false]) ∧ Keeps [] w w' := by
  go_enter Tryd.func13, Tryd.ntmps13
  go_wp2_with fail
  refine bodyPost_ret (v := .tuple #[.agg #[.string ⟨#[]⟩, .bool false, .int .u32 0, .int .u16 0], .bool false]) (by simp [results, Tryd.results13, go_sem]) rfl ⟨rfl, ((Keeps.alloc [] w _).alloc' _).alloc' _⟩
set_option maxRecDepth 100000 in
theorem where_nil (w : World) (name : ByteArray) : Calls Tryd.prog 14 #[.pointer none, .string name] w fun e w' => e = .returned (.tuple #[.int .u32 0, .int .u16 0, .int .i64 6]) ∧ Keeps [] w w' := by
  have H := Lib.hid (find_nil w name)
  go_enter Tryd.func14, Tryd.ntmps14
  go_wp2_with fail
  refine H.out.mono ?_
  rintro e w2 ⟨rfl, k2⟩
  have K2 := Lib.hid k2
  clear k2
  unfold encPR zeroPR
  go_wp2_with fail
  refine bodyPost_ret (v := .tuple #[.int .u32 0, .int .u16 0, .int .i64 6]) (by simp [results, Tryd.results14, go_sem]) rfl ⟨rfl, K2.out.trans (Keeps.alloc _ _ _)⟩
theorem all_nil (w : World) : Calls Tryd.prog 18 #[.pointer none] w fun e w' => e = .returned (.slice none 0 0) ∧ w' = w := by
  go_enter Tryd.func18, Tryd.ntmps18
  go_wp2_with fail
  go_ret
  exact ⟨rfl, rfl⟩
set_option maxRecDepth 100000 in
theorem rules_own (w : World) : Calls Tryd.prog 24 #[] w fun e w' => e = .returned (.slice (some ⟨w.heap.size, 0, none⟩) 4 4) ∧ w' = w.alloc (.cells (rowR rules0).toArray 35) := by
  go_enter Tryd.func24, Tryd.ntmps24
  go_wp2_with fail
  go_ret
  exact ⟨rfl, rfl⟩
theorem own_rules (w : World) (base : Nat) (hb : base ≤ w.heap.size) : OwnR (w.alloc (.cells (rowR rules0).toArray 35)) base (.slice (some ⟨w.heap.size, 0, none⟩) 4 4) rules0 := by
  refine ⟨by rw [rowR_len], .inr ⟨w.heap.size, 4, (rowR rules0).toArray, rfl, hb, (MapKept.heap_alloc w _).1, Nat.le_refl _, by simp [maxLen], ?_, ?_⟩⟩
  · rw [List.size_toArray, rowR_len]; rfl
  · rw [List.take_of_length_le]
    show (rowR rules0).length ≤ _
    rw [rowR_len]
    exact Nat.le_refl _
end Go.Proofs.YtbmkdnkiojapbaaDoor
