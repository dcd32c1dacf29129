/-
  A sniffer that is none; Take and Close by what comes out. Condition: the library's variables lie as listed.
-/
import Derived.Test.YtpoheemjdieogaaGreatDoorSnQ
namespace Go.Proofs.YtpoheemjdieogaaGreatDoor
open Go.RowKit Go.Lib
set_option linter.unusedVariables false
set_option linter.unusedSimpArgs false

theorem anew_nil (w : World) (fv : Value) : Calls Tryz.prog 29 #[.pointer none, fv] w fun e w' => e = .returned (.tuple #[.int .i64 0, .string ByteArray.empty, .int .i64 2]) ∧ w' = w := by
  have HN := Lib.hid (snone_nil w)
  go_enter Tryz.func29, Tryz.ntmps29
  go_wp2_with fail
  refine HN.out.mono ?_
  rintro e w1 ⟨rfl, h1⟩
  obtain rfl := h1.symm
  clear HN h1
  go_wp2_with fail
  go_ret3
  exact ⟨rfl, rfl⟩
theorem sclose_nil (w : World) : Calls Tryz.prog 14 #[.pointer none] w fun e w' => e = .returned (.tuple #[.int .i64 0, .string ByteArray.empty, .int .i64 2]) ∧ Keeps [] w w' := by
  have hmf : ∀ (fn : Fn) (first cap : Array Value) (w : World), (Instr.makeFunc fn first cap).run Tryz.prog w = .ok (.func fn first cap) w := fun _ _ _ _ => rfl
  obtain ⟨X, hX⟩ : ∃ X, w.heap.size = X := ⟨_, rfl⟩
  obtain ⟨w1, hw1⟩ : ∃ w1, w.alloc (.cells #[.pointer none] 30) = w1 := ⟨_, rfl⟩
  have k1 : Keeps [] w w1 := by rw [← hw1]; exact Keeps.alloc [] w _
  have h1 : w1.heap[X]? = some (.cells #[.pointer none] 30 (0, 0)) := by rw [← hw1, ← hX]; exact (MapKept.heap_alloc w _).1
  have cx : w1.cell? ⟨X, 0, none⟩ = some (.pointer none) := cell_of_block h1 0
  have HK := Lib.hid k1
  clear k1 h1
  go_enter Tryz.func14, Tryz.ntmps14
  go_wp2_with fail
  refine (anew_nil w1 _).mono ?_
  rintro e w2 ⟨rfl, rfl⟩
  go_wp2_with fail
  go_ret3
  exact ⟨rfl, HK.out⟩
theorem stold_nil (w : World) : Calls Tryz.prog 15 #[.pointer none] w fun e w' => e = .returned (.tuple #[.int .i64 0, .string ByteArray.empty]) ∧ w' = w := by
  have HN := Lib.hid (snone_nil w)
  go_enter Tryz.func15, Tryz.ntmps15
  go_wp2_with fail
  refine HN.out.mono ?_
  rintro e w1 ⟨rfl, h1⟩
  obtain rfl := h1.symm
  clear HN h1
  go_wp2_with fail
  go_ret2
  exact ⟨rfl, rfl⟩
theorem sbytes_nil (w : World) : Calls Tryz.prog 20 #[.pointer none] w fun e w' => e = .returned (.slice none 0 0) ∧ w' = w := by
  have HN := Lib.hid (snone_nil w)
  go_enter Tryz.func20, Tryz.ntmps20
  go_wp2_with fail
  refine HN.out.mono ?_
  rintro e w1 ⟨rfl, h1⟩
  obtain rfl := h1.symm
  clear HN h1
  go_wp2_with fail
  go_ret
  exact ⟨rfl, rfl⟩
theorem sroom_nil (w : World) : Calls Tryz.prog 21 #[.pointer none] w fun e w' => e = .returned (.int .i64 0) ∧ w' = w := by
  have HN := Lib.hid (snone_nil w)
  go_enter Tryz.func21, Tryz.ntmps21
  go_wp2_with fail
  refine HN.out.mono ?_
  rintro e w1 ⟨rfl, h1⟩
  obtain rfl := h1.symm
  clear HN h1
  go_wp2_with fail
  go_ret
  exact ⟨rfl, rfl⟩
theorem ans_ok {s s' : SS} (h : tellS s = s') : ansV (ansS (0, s)).1 = .tuple #[.int .i64 s'.told, .string s'.name, .int .i64 0] := by unfold ansS; rw [if_neg (by simp), h]; rfl
theorem ans_no {s : SS} {k : Int} (h : k ≠ 0) : ansV (ansS (k, s)).1 = .tuple #[.int .i64 0, .string ByteArray.empty, .int .i64 k] := by unfold ansS; rw [if_pos h]; rfl
/-- Take where it goes well; where it does not -/
theorem stake_ok (w : World) (B p : Nat) (s s1 s2 : SS) (hw : ∀ x, Keeps [p] w x → LW x) (hs : SnAt w B p s) (ok : SOk s) (A : Option Addr) (n c : Nat) (b : List UInt8) (hb : BytesV w (.slice A n c) b) (hm : n ≤ 9223372036854775807) (h1 : takeS s b = (0, s1)) (h2 : tellS s1 = s2) :
    Calls Tryz.prog 13 #[.pointer (some ⟨p, 0, none⟩), .slice A n c] w fun e w' => e = .returned (.tuple #[.int .i64 s2.told, .string s2.name, .int .i64 0]) ∧ SnAt w' B p s2 ∧ Keeps [p] w w' := by
  refine (stake_any w B p s hw hs ok A n c b hb hm).mono ?_
  rintro e w' ⟨rfl, -, h⟩
  rw [h1] at h ⊢
  have h3 := h rfl
  dsimp only at h3
  rw [h2] at h3
  exact ⟨by rw [ans_ok h2], h3.1.weak hs.2.1 hs.1, h3.2⟩
theorem stake_no (w : World) (B p : Nat) (s s1 : SS) (k : Int) (hw : ∀ x, Keeps [p] w x → LW x) (hs : SnAt w B p s) (ok : SOk s) (A : Option Addr) (n c : Nat) (b : List UInt8) (hb : BytesV w (.slice A n c) b) (hm : n ≤ 9223372036854775807) (h1 : takeS s b = (k, s1)) (hk : k ≠ 0) :
    Calls Tryz.prog 13 #[.pointer (some ⟨p, 0, none⟩), .slice A n c] w fun e w' => e = .returned (.tuple #[.int .i64 0, .string ByteArray.empty, .int .i64 k]) ∧ Keeps [] w w' := by
  refine (stake_any w B p s hw hs ok A n c b hb hm).mono ?_
  rintro e w' ⟨rfl, h, -⟩
  rw [h1] at h ⊢
  exact ⟨by rw [ans_no hk], h hk⟩
theorem sclose_ok (w : World) (B p : Nat) (s s' : SS) (hw : ∀ x, Keeps [p] w x → LW x) (hs : SnAt w B p s) (ok : SOk s) (h : tellS { s with closed := true } = s') :
    Calls Tryz.prog 14 #[.pointer (some ⟨p, 0, none⟩)] w fun e w' => e = .returned (.tuple #[.int .i64 s'.told, .string s'.name, .int .i64 0]) ∧ SnAt w' B p s' ∧ Keeps [p] w w' := by
  refine (sclose_any w B p s hw hs ok).mono ?_
  rintro e w' ⟨rfl, h1, h2⟩
  rw [h] at h1
  exact ⟨by rw [ans_ok h], h1, h2⟩
end Go.Proofs.YtpoheemjdieogaaGreatDoor
