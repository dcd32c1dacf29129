/-
  The walk of []byte(s) as bytes; http.Look and tls.Look at any value that reads as bytes. Condition: the library's variables lie as listed.
-/
import Derived.Test.YtpoheemjdieogaaGreatDoorHttpL
import Derived.Test.YtpoheemjdieogaaGreatDoorTlsI
import Derived.Lib.ConvBytes
namespace Go.Proofs.YtpoheemjdieogaaGreatDoor
open Go.RowKit Go.Lib
set_option linter.unusedVariables false
set_option linter.unusedSimpArgs false

theorem conv_bytes (w : World) (s : List UInt8) (hs : s.length ≤ 1000000) : BytesV (bytesWorld w 5 (bs s)) (.slice (some ⟨w.heap.size, 0, none⟩) (bs s).size (grownCap w (bs s).size 0 5)) s ∧ Keeps [] w (bytesWorld w 5 (bs s)) := by
  refine ⟨⟨_, _, rfl, grownCap_ge _ _ _ _, grownCap_le_maxLen _ _ _ _ (by rw [bs_size]; simp [maxLen]; omega), fun hp => ⟨_, _, rfl, fun i x hx => ?_⟩⟩, Below.keeps ⟨rfl, rfl, rfl, by rw [bytesWorld_size]; omega, fun j hj => bytesWorld_at_old w _ (bs s) j hj⟩⟩
  have hi : i < (bs s).size := (List.getElem?_eq_some_iff.1 hx).1
  rw [Nat.zero_add, bytesWorld_cell w _ (bs s) i hi]
  have e : (bs s).data.toList.getD i 0 = x := by rw [List.getD_eq_getElem?_getD, show (bs s).data.toList[i]? = some x from hx]; rfl
  rw [e]; rfl
theorem hlook_B (w : World) (hw : LW w) (v : Value) (l : List UInt8) (h : BytesV w v l) (hn : l.length ≤ 90000) : Calls Tryz.prog 55 #[v] w fun en w' => en = .returned (.tuple #[.int .i64 (lookH l).1, .string (bs (lookH l).2)]) ∧ Keeps [] w w' := by
  obtain ⟨A, c, rfl, h1⟩ := h
  exact hlook_any w hw A l.length c l ⟨A, c, rfl, h1⟩ hn
theorem bs_inj {x y : List UInt8} : ((bs x).toList == (bs y).toList) = decide (x = y) := by
  rw [Lib.toList_data, Lib.toList_data]
  show (x == y) = decide (x = y)
  by_cases h : x = y <;> simp [h]
theorem look_B (w : World) (hw : LW w) (v : Value) (l : List UInt8) (h : BytesV w v l) (hn : l.length ≤ 90000) : Calls Tryz.prog 54 #[v] w fun en w' => en = .returned (.tuple #[.int .i64 (lookP l).1, .string (lookP l).2]) ∧ Keeps [] w w' := by
  obtain ⟨A, c, rfl, h1⟩ := h
  exact look_any w hw A l.length c l ⟨A, c, rfl, h1⟩ hn
end Go.Proofs.YtpoheemjdieogaaGreatDoor
