/-
  The walks of bytes.Clone, slices.Clone, slices.Grow at nil, slices.Concat of two byte slices. Condition: at most 2^38 bytes each.
-/
import Derived.Test.YtakgohocimlagaaGreatKitB
namespace Go.Proofs.YtakgohocimlagaaGreat
open Go.RowKit
set_option linter.unusedVariables false
set_option linter.unusedSimpArgs false

theorem grownCap_le {w : World} {n o e : Nat} (h : n ≤ maxLen) : grownCap w n o e ≤ maxLen := grownCap_le_maxLen w n o e h

set_option maxHeartbeats 400000 in
theorem bclone_own (w : World) (A : Option Addr) (n c : Nat) (l : List UInt8) (h : BytesV w (.slice A n c) l) (hl : n ≤ 274877906944) :
    Calls Tryz.prog 33 #[.slice A n c] w fun e w' => ∃ v, e = .returned v ∧ w'.ownsRow w.heap.size 5 1 v l.length (l.map u8V) ∧ Keeps [] w w' := by
  have hk := fun w => Lib.run_eql_slice_nil (P := Tryz.prog) w 37 5 A n c 0 0 Tryz.underlying37
  obtain ⟨hn, _, _⟩ := h.form
  have H := Lib.hid h
  have HN := Lib.hid hn
  clear h hn
  rcases A with _ | a
  · go_enter Tryz.func33, Tryz.ntmps33
    go_wp2
    go_ret
    have h0 : l = [] := by
      rcases Nat.eq_zero_or_pos l.length with h0 | h0
      · exact List.eq_nil_of_length_eq_zero h0
      · obtain ⟨g, o, e, _⟩ := H.out.get (by rw [HN.out]; exact h0); cases e
    rw [h0]
    exact ⟨_, rfl, World.ownsRow_nil _ _ _ _, Keeps.refl _ _⟩
  · go_enter Tryz.func33, Tryz.ntmps33
    go_wp2_with (at_builtin; refine wpList_append_bytes rfl _ _ w.heap.size 37 5 rfl Tryz.underlying37 Tryz.infoU8 _ 0 [] rfl (own_empty w 5) _ l rfl (H.out.keep0 (Keeps.alloc _ _ _)) (by have := HN.out; omega) (by simp) ?_; intro v1 w1 hown hg hat _)
    go_ret
    refine ⟨_, rfl, by simpa using hown, ((Keeps.alloc [] w _).own hg (fun j hj => ?_))⟩
    cases hj
    exact Nat.le_refl _

set_option maxHeartbeats 400000 in
theorem sclone_own (w : World) (A : Option Addr) (n c : Nat) (l : List UInt8) (h : BytesV w (.slice A n c) l) (hl : n ≤ 274877906944) :
    Calls Tryz.prog 84 #[.slice A n c] w fun e w' => ∃ v, e = .returned v ∧ w'.ownsRow w.heap.size 5 1 v l.length (l.map u8V) ∧ Keeps [] w w' := by
  have hk := fun w => Lib.run_eql_slice_nil (P := Tryz.prog) w 37 5 A n c 0 0 Tryz.underlying37
  obtain ⟨hn, _, _⟩ := h.form
  have H := Lib.hid h
  have HN := Lib.hid hn
  clear h hn
  rcases A with _ | a
  · go_enter Tryz.func84, Tryz.ntmps84
    go_wp2
    go_ret
    have h0 : l = [] := by
      rcases Nat.eq_zero_or_pos l.length with h0 | h0
      · exact List.eq_nil_of_length_eq_zero h0
      · obtain ⟨g, o, e, _⟩ := H.out.get (by rw [HN.out]; exact h0); cases e
    rw [h0]
    exact ⟨_, rfl, World.ownsRow_nil _ _ _ _, Keeps.refl _ _⟩
  · go_enter Tryz.func84, Tryz.ntmps84
    go_wp2_with (at_builtin; refine wpList_append_bytes rfl _ _ w.heap.size 37 5 rfl Tryz.underlying37 Tryz.infoU8 _ 0 [] rfl (own_empty w 5) _ l rfl (H.out.keep0 (Keeps.alloc _ _ _)) (by have := HN.out; omega) (by simp) ?_; intro v1 w1 hown hg hat _)
    go_ret
    refine ⟨_, rfl, by simpa using hown, ((Keeps.alloc [] w _).own hg (fun j hj => ?_))⟩
    cases hj
    exact Nat.le_refl _

theorem bclone_any (w : World) (A : Option Addr) (n c : Nat) (l : List UInt8) (h : BytesV w (.slice A n c) l) (hl : n ≤ 274877906944) :
    Calls Tryz.prog 33 #[.slice A n c] w fun e w' => ∃ v, e = .returned v ∧ BytesV w' v l ∧ Keeps [] w w' :=
  (bclone_own w A n c l h hl).mono fun e w' ⟨v, he, ho, hk⟩ => ⟨v, he, BytesV.of_own ho, hk⟩

theorem sclone_any (w : World) (A : Option Addr) (n c : Nat) (l : List UInt8) (h : BytesV w (.slice A n c) l) (hl : n ≤ 274877906944) :
    Calls Tryz.prog 84 #[.slice A n c] w fun e w' => ∃ v, e = .returned v ∧ BytesV w' v l ∧ Keeps [] w w' :=
  (sclone_own w A n c l h hl).mono fun e w' ⟨v, he, ho, hk⟩ => ⟨v, he, BytesV.of_own ho, hk⟩

set_option maxHeartbeats 400000 in
theorem grow0_any (w : World) : Calls Tryz.prog 81 #[.slice none 0 0, .int .i64 0] w fun e w' => e = .returned (.slice none 0 0) ∧ w = w' := by
  go_enter Tryz.func81, Tryz.ntmps81
  go_wp2
  go_ret
  exact ⟨rfl, rfl⟩

set_option maxRecDepth 100000 in
set_option maxHeartbeats 400000 in
theorem growN_any (w : World) (n : Nat) (h0 : 0 < n) (h1 : n ≤ 1099511627776) : Calls Tryz.prog 81 #[.slice none 0 0, .int .i64 n] w fun e w' => ∃ v, e = .returned v ∧ w'.ownsRow w.heap.size 5 1 v 0 (([] : List UInt8).map u8V) ∧ Keeps [] w w' := by
  obtain ⟨i0, hi0, hz0, hz1, hz2⟩ := info_parts Tryz.infoU8
  have hrun := Lib.run_append_grow_zeros (P := Tryz.prog) w 37 3 37 5 i0 (.int .u8 0) .i64 .i64 Tryz.underlying37 Tryz.underlying3 hi0 hz0 none 0 0 [] (by simp [Builtin.firstCells]) n h0 (by omega) (by omega) (by simp; omega) (by rw [hz2]; omega) (by rw [hz2, Nat.mul_one]; exact Nat.le_trans (by simp [Builtin.nextslicecap]; repeat' split <;> omega) (show n ≤ 281474976710656 by omega))
  simp only [Nat.zero_add] at hrun
  have hcap := grownCap_ge w n 0 5
  have hle := grownCap_le (w := w) (n := n) (o := 0) (e := 5) (by simp only [maxLen]; omega)
  simp only [maxLen] at hle
  have hown : (w.drew.alloc (.cells (([] : List Value).toArray ++ Builtin.zeroCells (Value.int .u8 0).cells n ++ Builtin.zeroCells (Value.int .u8 0).cells (grownCap w n 0 5 - n)) 5)).ownsRow w.heap.size 5 1 (.slice (some ⟨w.heap.size, 0, none⟩) 0 (grownCap w n 0 5)) 0 (([] : List UInt8).map u8V) := by
    exact World.ownsRow_made w.drew _ _ (Nat.le_refl _) (by simp only [maxLen]; exact hle) (by simp [Builtin.zeroCells, Value.cells]; omega)
  have HO := Lib.hid hown
  clear hown
  generalize hG : grownCap w n 0 5 = G at *
  clear hG hz2 hz1 hz0 hi0
  generalize hO : Obj.cells (([] : List Value).toArray ++ Builtin.zeroCells (Value.int .u8 0).cells n ++ Builtin.zeroCells (Value.int .u8 0).cells (G - n)) 5 = O at *
  clear hO
  have HR := Lib.hid hrun
  clear hrun
  go_enter Tryz.func81, Tryz.ntmps81
  go_wp2_with (at_builtin; refine Lib.wpList_append_run _ rfl _ _ _ _ rfl _ _ rfl rfl _ _ HR.out ?_)
  go_ret
  exact ⟨_, rfl, HO.out, (Keeps.drew _ _).alloc' _⟩

theorem grow_any (w : World) (n : Nat) (h1 : n ≤ 1099511627776) : Calls Tryz.prog 81 #[.slice none 0 0, .int .i64 n] w fun e w' => ∃ v, e = .returned v ∧ w'.ownsRow w.heap.size 5 1 v 0 (([] : List UInt8).map u8V) ∧ Keeps [] w w' := by
  rcases Nat.eq_zero_or_pos n with rfl | h0
  · exact (grow0_any w).mono fun e w' ⟨he, hw⟩ => ⟨_, he, World.ownsRow_nil _ _ _ _, hw ▸ Keeps.refl _ _⟩
  · exact growN_any w n h0 h1

set_option maxRecDepth 100000 in
set_option maxHeartbeats 1000000 in
theorem concat_any (w : World) (g : Nat) (A1 A2 : Option Addr) (n1 c1 n2 c2 : Nat) (l1 l2 : List UInt8)
    (q1 : w.cell? ⟨g, 0, none⟩ = some (.slice A1 n1 c1)) (q2 : w.cell? ⟨g, 1, none⟩ = some (.slice A2 n2 c2))
    (h1 : BytesV w (.slice A1 n1 c1) l1) (h2 : BytesV w (.slice A2 n2 c2) l2) (b1 : n1 ≤ 274877906944) (b2 : n2 ≤ 274877906944) :
    Calls Tryz.prog 48 #[.slice (some ⟨g, 0, none⟩) 2 2] w fun e w' => ∃ v, e = .returned v ∧ BytesV w' v (l1 ++ l2) ∧ Keeps [] w w' := by
  obtain ⟨e1, _, _⟩ := h1.form
  obtain ⟨e2, _, _⟩ := h2.form
  have H1 := Lib.hid h1
  have H2 := Lib.hid h2
  have E1 := Lib.hid e1
  have E2 := Lib.hid e2
  clear h1 h2 e1 e2
  go_enter Tryz.func48, Tryz.ntmps48
  go_wp2
  go_loop [3, 11] (fun s i => (s = .int .i64 0 ∧ i = .int .i64 0) ∨ (s = .int .i64 n1 ∧ i = .int .i64 1) ∨ (s = .int .i64 (n1 + n2) ∧ i = .int .i64 2)) (fun _ i => 2 - (intOf i).toNat)
  case atStart => exact Or.inl ⟨rfl, rfl⟩
  case round =>
    rcases hrel with ⟨rfl, rfl⟩ | ⟨rfl, rfl⟩ | ⟨rfl, rfl⟩
    · go_wp2
      go_round
      case rel => exact Or.inr (Or.inl ⟨rfl, rfl⟩)
      case measure => simp [intOf]
    · go_wp2
      go_round
      case rel => exact Or.inr (Or.inr ⟨rfl, rfl⟩)
      case measure => simp [intOf]
    · go_wp2_with fail
      rw [show ((n1 : Int) + (n2 : Int)) = ((n1 + n2 : Nat) : Int) by omega]
      refine (grow_any w (n1 + n2) (by omega)).mono ?_
      rintro e wg ⟨vg, rfl, og, kg⟩
      go_wp2_with fail
      go_loopw [6, 27] (fun v i wr => ∃ l m, wr.ownsRow w.heap.size 5 1 v m (l.map u8V) ∧ Keeps [] w wr ∧ ((i = .int .i64 0 ∧ l = [] ∧ m = 0) ∨ (i = .int .i64 1 ∧ l = l1 ∧ m = n1) ∨ (i = .int .i64 2 ∧ l = l1 ++ l2 ∧ m = n1 + n2))) (fun _ i _ => 2 - (intOf i).toNat)
      case atStart => exact ⟨[], 0, og, kg, Or.inl ⟨rfl, rfl, rfl⟩⟩
      case round =>
        obtain ⟨l, m, ow, kw, hcase⟩ := hrel
        have d1 := cell_keeps kw q1 (by simp)
        have d2 := cell_keeps kw q2 (by simp)
        have hlt := fun j hj => (ow.lt j hj).1
        have HL := Lib.hid hlt
        have OW := Lib.hid ow
        have KW := Lib.hid kw
        clear q1 q2 og kg hlt ow kw
        rcases hcase with ⟨rfl, rfl, rfl⟩ | ⟨rfl, rfl, rfl⟩ | ⟨rfl, rfl, rfl⟩
        · go_wp2_with (at_builtin; refine wpList_append_bytes rfl _ _ w.heap.size 37 5 rfl Tryz.underlying37 Tryz.infoU8 _ 0 [] rfl OW.out _ l1 rfl (H1.out.keep0 KW.out) (by have := E1.out; omega) KW.out.size ?_; intro v1 w1 hown hg hat _)
          go_roundw
          case rel => exact ⟨l1, n1, by rw [E1.out]; simpa using hown, KW.out.own hg HL.out, Or.inr (Or.inl ⟨rfl, rfl, rfl⟩)⟩
          case measure => simp [intOf]
        · go_wp2_with (at_builtin; refine wpList_append_bytes rfl _ _ w.heap.size 37 5 rfl Tryz.underlying37 Tryz.infoU8 _ m l rfl OW.out _ l2 rfl (H2.out.keep0 KW.out) (by have := E2.out; omega) KW.out.size ?_; intro v1 w1 hown hg hat _)
          go_roundw
          case rel => exact ⟨l ++ l2, m + n2, by rw [E2.out]; exact hown, KW.out.own hg HL.out, Or.inr (Or.inr ⟨rfl, rfl, rfl⟩)⟩
          case measure => simp [intOf]
        · go_wp2_with fail
          go_ret
          exact ⟨_, rfl, BytesV.of_own OW.out, KW.out⟩
end Go.Proofs.YtakgohocimlagaaGreat
