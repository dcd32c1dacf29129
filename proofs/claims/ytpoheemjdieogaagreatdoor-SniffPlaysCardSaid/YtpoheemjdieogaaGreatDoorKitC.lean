/-
  The walks of bytes.Clone and slices.Clone of byte slices. Condition: at most 2^38 bytes each.
-/
import Derived.Test.YtpoheemjdieogaaGreatDoorKitB
namespace Go.Proofs.YtpoheemjdieogaaGreatDoor
open Go.RowKit
set_option linter.unusedVariables false
set_option linter.unusedSimpArgs false

theorem grownCap_le {w : World} {n o e : Nat} (h : n ≤ maxLen) : grownCap w n o e ≤ maxLen := grownCap_le_maxLen w n o e h

set_option maxHeartbeats 400000 in
theorem bclone_own (w : World) (A : Option Addr) (n c : Nat) (l : List UInt8) (h : BytesV w (.slice A n c) l) (hl : n ≤ 274877906944) :
    Calls Tryz.prog 31 #[.slice A n c] w fun e w' => ∃ v, e = .returned v ∧ w'.ownsRow w.heap.size 5 1 v l.length (l.map u8V) ∧ Keeps [] w w' := by
  have hk := fun w => Lib.run_eql_slice_nil (P := Tryz.prog) w 22 5 A n c 0 0 Tryz.underlying22
  obtain ⟨hn, _, _⟩ := h.form
  have H := Lib.hid h
  have HN := Lib.hid hn
  clear h hn
  rcases A with _ | a
  · go_enter Tryz.func31, Tryz.ntmps31
    go_wp2
    go_ret
    have h0 : l = [] := by
      rcases Nat.eq_zero_or_pos l.length with h0 | h0
      · exact List.eq_nil_of_length_eq_zero h0
      · obtain ⟨g, o, e, _⟩ := H.out.get (by rw [HN.out]; exact h0); cases e
    rw [h0]
    exact ⟨_, rfl, World.ownsRow_nil _ _ _ _, Keeps.refl _ _⟩
  · go_enter Tryz.func31, Tryz.ntmps31
    go_wp2_with (at_builtin; refine wpList_append_bytes rfl _ _ w.heap.size 22 5 rfl Tryz.underlying22 Tryz.infoU8 _ 0 [] rfl (own_empty w 5) _ l rfl (H.out.keep0 (Keeps.alloc _ _ _)) (by have := HN.out; omega) (by simp) ?_; intro v1 w1 hown hg hat _)
    go_ret
    refine ⟨_, rfl, by simpa using hown, ((Keeps.alloc [] w _).own hg (fun j hj => ?_))⟩
    cases hj
    exact Nat.le_refl _

set_option maxHeartbeats 400000 in
theorem sclone_own (w : World) (A : Option Addr) (n c : Nat) (l : List UInt8) (h : BytesV w (.slice A n c) l) (hl : n ≤ 274877906944) :
    Calls Tryz.prog 113 #[.slice A n c] w fun e w' => ∃ v, e = .returned v ∧ w'.ownsRow w.heap.size 5 1 v l.length (l.map u8V) ∧ Keeps [] w w' := by
  have hk := fun w => Lib.run_eql_slice_nil (P := Tryz.prog) w 22 5 A n c 0 0 Tryz.underlying22
  obtain ⟨hn, _, _⟩ := h.form
  have H := Lib.hid h
  have HN := Lib.hid hn
  clear h hn
  rcases A with _ | a
  · go_enter Tryz.func113, Tryz.ntmps113
    go_wp2
    go_ret
    have h0 : l = [] := by
      rcases Nat.eq_zero_or_pos l.length with h0 | h0
      · exact List.eq_nil_of_length_eq_zero h0
      · obtain ⟨g, o, e, _⟩ := H.out.get (by rw [HN.out]; exact h0); cases e
    rw [h0]
    exact ⟨_, rfl, World.ownsRow_nil _ _ _ _, Keeps.refl _ _⟩
  · go_enter Tryz.func113, Tryz.ntmps113
    go_wp2_with (at_builtin; refine wpList_append_bytes rfl _ _ w.heap.size 22 5 rfl Tryz.underlying22 Tryz.infoU8 _ 0 [] rfl (own_empty w 5) _ l rfl (H.out.keep0 (Keeps.alloc _ _ _)) (by have := HN.out; omega) (by simp) ?_; intro v1 w1 hown hg hat _)
    go_ret
    refine ⟨_, rfl, by simpa using hown, ((Keeps.alloc [] w _).own hg (fun j hj => ?_))⟩
    cases hj
    exact Nat.le_refl _

theorem bclone_any (w : World) (A : Option Addr) (n c : Nat) (l : List UInt8) (h : BytesV w (.slice A n c) l) (hl : n ≤ 274877906944) :
    Calls Tryz.prog 31 #[.slice A n c] w fun e w' => ∃ v, e = .returned v ∧ BytesV w' v l ∧ Keeps [] w w' :=
  (bclone_own w A n c l h hl).mono fun e w' ⟨v, he, ho, hk⟩ => ⟨v, he, BytesV.of_own ho, hk⟩

theorem sclone_any (w : World) (A : Option Addr) (n c : Nat) (l : List UInt8) (h : BytesV w (.slice A n c) l) (hl : n ≤ 274877906944) :
    Calls Tryz.prog 113 #[.slice A n c] w fun e w' => ∃ v, e = .returned v ∧ BytesV w' v l ∧ Keeps [] w w' :=
  (sclone_own w A n c l h hl).mono fun e w' ⟨v, he, ho, hk⟩ => ⟨v, he, BytesV.of_own ho, hk⟩
end Go.Proofs.YtpoheemjdieogaaGreatDoor
