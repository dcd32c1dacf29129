/-
  The walks of a sniffer's methods: New, none, Take, Close, Told, Bytes, Room. Condition: the library's variables lie as listed; the sniffer lies in memory as SnAt says.
-/
import Derived.Test.YtpoheemjdieogaaGreatDoorSnW
namespace Go.Proofs.YtpoheemjdieogaaGreatDoor
open Go.RowKit Go.Lib
set_option linter.unusedVariables false
set_option linter.unusedSimpArgs false

theorem SnAt.start {w : World} {p : Nat} {s : SS} (h : SnB w p (.slice none 0 0) s) (hs : s.b = []) {B : Nat} (h1 : p < B) (h2 : B ≤ w.heap.size) : SnAt w B p s :=
  ⟨h1, h2, _, h, by rw [hs]; exact World.ownsRow_nil _ _ _ _⟩
theorem snew_bad (w : World) (n : Int) (hbad : n < 1 ∨ 16384 < n) : Calls Tryz.prog 12 #[.int .i64 n] w fun e w' => e = .returned (.tuple #[.pointer none, .int .i64 1]) ∧ w' = w := by
  by_cases h1 : n < 1
  · clear hbad
    go_enter Tryz.func12, Tryz.ntmps12
    go_wp2
    go_ret2
    exact ⟨rfl, rfl⟩
  · have h2 : 16384 < n := by omega
    clear hbad
    go_enter Tryz.func12, Tryz.ntmps12
    go_wp2
    go_ret2
    exact ⟨rfl, rfl⟩
theorem snew_ok (w : World) (n : Nat) (h1 : 1 ≤ n) (h2 : n ≤ 16384) : Calls Tryz.prog 12 #[.int .i64 n] w fun e w' => ∃ p, e = .returned (.tuple #[.pointer (some ⟨p, 0, none⟩), .int .i64 0]) ∧ SnB w' p (.slice none 0 0) ⟨[], n, false, 0, ByteArray.empty⟩ ∧ w.heap.size ≤ p ∧ Keeps [] w w' := by
  have g1 : ¬ (n : Int) < 1 := by omega
  have g2 : ¬ (16384 : Int) < (n : Int) := by omega
  have fin : SnB (w.alloc (.cells #[.slice none 0 0, .int .i64 (n : Int), .bool false, .int .i64 0, .string ByteArray.empty] 65)) w.heap.size (.slice none 0 0) ⟨[], n, false, 0, ByteArray.empty⟩ := (MapKept.heap_alloc w _).1
  have F := Lib.hid (And.intro fin (Keeps.alloc [] w (.cells #[.slice none 0 0, .int .i64 (n : Int), .bool false, .int .i64 0, .string ByteArray.empty] 65)))
  clear fin h1 h2
  go_enter Tryz.func12, Tryz.ntmps12
  go_wp2
  go_ret2
  exact ⟨_, rfl, F.out.1, Nat.le_refl _, F.out.2⟩
theorem snone_nil (w : World) : Calls Tryz.prog 33 #[.pointer none] w fun e w' => e = .returned (.bool true) ∧ w' = w := by
  go_enter Tryz.func33, Tryz.ntmps33
  go_wp2
  go_ret
  exact ⟨rfl, rfl⟩
theorem snone_any (w : World) (p : Nat) (v : Value) (s : SS) (h : SnB w p v s) (hm : 1 ≤ s.most) : Calls Tryz.prog 33 #[.pointer (some ⟨p, 0, none⟩)] w fun e w' => e = .returned (.bool false) ∧ w' = w := by
  have c1 : w.cell? ⟨p, 1, none⟩ = some (.int .i64 (s.most : Int)) := cell_of_block h 1
  obtain ⟨n, hn⟩ : ∃ n, s.most = n := ⟨_, rfl⟩
  rw [hn] at c1 hm
  have hz : ((n : Int) == 0) = false := by rw [beq_eq_false_iff_ne]; omega
  have hz2 : ¬ (n : Int) = 0 := by omega
  clear h hn hm
  go_enter Tryz.func33, Tryz.ntmps33
  go_wp2
  go_ret
  exact ⟨rfl, rfl⟩
theorem sroom_any (w : World) (B p : Nat) (s : SS) (h : SnAt w B p s) (ok : SOk s) : Calls Tryz.prog 21 #[.pointer (some ⟨p, 0, none⟩)] w fun e w' => e = .returned (.int .i64 ((s.most - s.b.length : Nat) : Int)) ∧ Keeps [] w w' := by
  obtain ⟨_, _, v, h2, h3⟩ := h
  obtain ⟨A, c, rfl⟩ := h3.form
  have HN := Lib.hid (snone_any w p _ s h2 ok.one)
  have h4 := ok.most
  have h5 := ok.room
  have c0 : w.drew.cell? ⟨p, 0, none⟩ = some (.slice A s.b.length c) := cell_of_block h2 0
  have c1 : w.drew.cell? ⟨p, 1, none⟩ = some (.int .i64 (s.most : Int)) := cell_of_block h2 1
  obtain ⟨n, hn⟩ : ∃ n, s.most = n := ⟨_, rfl⟩
  obtain ⟨m, hm⟩ : ∃ m, s.b.length = m := ⟨_, rfl⟩
  rw [hn, hm] at h5
  rw [hn] at c1 h4 ⊢
  rw [hm] at c0 ⊢
  have HC := Lib.hid (And.intro c0 c1)
  have hsub : IntKind.i64.wrap ((n : Int) - (m : Int)) = ((n - m : Nat) : Int) := by rw [wrap_in] <;> omega
  have HW := Lib.hid hsub
  clear h2 h3 hn hm c0 c1 hsub ok
  go_enter Tryz.func21, Tryz.ntmps21
  go_wp2_with fail
  refine HN.out.mono ?_
  rintro e w1 ⟨rfl, h1⟩
  obtain rfl := h1.symm
  clear HN h1
  go_wp2_with fail
  go_region_held3 (fun W => W.cell? ⟨p, 0, none⟩ = some (.slice A m c) ∧ W.cell? ⟨p, 1, none⟩ = some (.int .i64 (n : Int)))
    (exact HC.out)
    (fail)
  go_wp2_with fail
  go_ret
  exact ⟨by show Ending.returned (Value.int .i64 (IntKind.i64.wrap ((n : Int) - (m : Int)))) = _; rw [HW.out], (Keeps.refl [] _).drew'⟩
theorem stold_any (w : World) (B p : Nat) (s : SS) (h : SnAt w B p s) (ok : SOk s) : Calls Tryz.prog 15 #[.pointer (some ⟨p, 0, none⟩)] w fun e w' => e = .returned (.tuple #[.int .i64 s.told, .string s.name]) ∧ Keeps [] w w' := by
  obtain ⟨_, _, v, h2, h3⟩ := h
  have HN := Lib.hid (snone_any w p _ s h2 ok.one)
  have c3 : w.drew.cell? ⟨p, 3, none⟩ = some (.int .i64 s.told) := cell_of_block h2 3
  have c4 : w.drew.cell? ⟨p, 4, none⟩ = some (.string s.name) := cell_of_block h2 4
  have HC := Lib.hid (And.intro c3 c4)
  obtain ⟨k, hk⟩ : ∃ k, s.told = k := ⟨_, rfl⟩
  obtain ⟨nm, hnm⟩ : ∃ nm, s.name = nm := ⟨_, rfl⟩
  rw [hk, hnm] at HC ⊢
  clear h2 h3 c3 c4 ok hk hnm
  go_enter Tryz.func15, Tryz.ntmps15
  go_wp2_with fail
  refine HN.out.mono ?_
  rintro e w1 ⟨rfl, h1⟩
  obtain rfl := h1.symm
  clear HN h1
  go_wp2_with fail
  go_region_held3 (fun W => W.cell? ⟨p, 3, none⟩ = some (.int .i64 k) ∧ W.cell? ⟨p, 4, none⟩ = some (.string nm))
    (exact HC.out)
    (fail)
  go_wp2_with fail
  go_ret2
  exact ⟨rfl, (Keeps.refl [] _).drew'⟩
theorem sbytes_any (w : World) (B p : Nat) (s : SS) (h : SnAt w B p s) (ok : SOk s) : Calls Tryz.prog 20 #[.pointer (some ⟨p, 0, none⟩)] w fun e w' => ∃ v, e = .returned v ∧ OwnB w' w.heap.size v s.b ∧ Keeps [] w w' := by
  obtain ⟨_, _, v, h2, h3⟩ := h
  obtain ⟨A, c, rfl⟩ := h3.form
  have HN := Lib.hid (snone_any w p _ s h2 ok.one)
  have h5 := ok.room
  have h4 := ok.most
  have HB := Lib.hid (bclone_own w A _ c s.b h3.bytes (by omega))
  have c0 : w.cell? ⟨p, 0, none⟩ = some (.slice A s.b.length c) := cell_of_block h2 0
  clear h2 h3 ok h4 h5
  go_enter Tryz.func20, Tryz.ntmps20
  go_wp2_with fail
  refine HN.out.mono ?_
  rintro e w1 ⟨rfl, h1⟩
  obtain rfl := h1.symm
  clear HN h1
  go_wp2_with fail
  refine HB.out.mono ?_
  rintro e w2 ⟨v2, rfl, h2⟩
  have H2 := Lib.hid h2
  clear h2 HB
  go_wp2_with fail
  go_ret
  exact ⟨v2, rfl, H2.out⟩
set_option maxRecDepth 100000 in
set_option maxHeartbeats 1000000 in
/-- what Take does first -/
theorem take1_any (w : World) (B p x y : Nat) (s : SS) (hs : SnAt w B p s) (ok : SOk s) (A : Option Addr) (n c : Nat) (b : List UInt8) (hb : BytesV w (.slice A n c) b)
    (hx : w.heap[x]? = some (.cells #[.pointer (some ⟨p, 0, none⟩)] 30 (0, 0))) (hy : w.heap[y]? = some (.cells #[.slice A n c] 22 (0, 0))) (hm : n ≤ 9223372036854775807) :
    Calls Tryz.prog 30 #[.pointer (some ⟨x, 0, none⟩), .pointer (some ⟨y, 0, none⟩)] w fun e w' => e = .returned (.int .i64 (takeS s b).1) ∧ ((takeS s b).1 ≠ 0 → (takeS s b).2 = s ∧ Keeps [] w w') ∧ ((takeS s b).1 = 0 → SnAt w' w.heap.size p (takeS s b).2 ∧ Keeps [p] w w') := by
  obtain ⟨hp, hBs, v, h2, h3⟩ := hs
  obtain ⟨A0, c0, rfl⟩ := h3.form
  obtain ⟨hl, _, _⟩ := hb.form
  have h4 := ok.most
  have h5 := ok.room
  have H2 := Lib.hid h2
  have H3 := Lib.hid h3
  have HB := Lib.hid hb
  have cx : w.cell? ⟨x, 0, none⟩ = some (.pointer (some ⟨p, 0, none⟩)) := cell_of_block hx 0
  have cy : w.cell? ⟨y, 0, none⟩ = some (.slice A n c) := cell_of_block hy 0
  have cp0 : w.cell? ⟨p, 0, none⟩ = some (.slice A0 s.b.length c0) := cell_of_block h2 0
  have cp1 : w.cell? ⟨p, 1, none⟩ = some (.int .i64 (s.most : Int)) := cell_of_block h2 1
  have cp2 : w.cell? ⟨p, 2, none⟩ = some (.bool s.closed) := cell_of_block h2 2
  obtain ⟨res, hres⟩ : ∃ r, takeS s b = r := ⟨_, rfl⟩
  rw [hres]
  have HRES := Lib.hid hres
  clear hres
  by_cases hc : s.closed = true
  · rw [hc] at cp2
    have hr : res = (24, s) := by rw [← HRES.out]; unfold takeS; rw [if_pos hc]
    subst hr
    clear HRES hx hy h2 h3 hb hc cp0 cp1
    go_enter Tryz.func30, Tryz.ntmps30
    go_wp2_with fail
    go_ret
    exact ⟨rfl, fun _ => ⟨by first | rfl | trivial, Keeps.refl _ _⟩, fun h => by simp at h⟩
  · have hcf : s.closed = false := by simpa using hc
    rw [hcf] at cp2
    obtain ⟨M, hM⟩ : ∃ M, s.most = M := ⟨_, rfl⟩
    obtain ⟨m, hmm⟩ : ∃ m, s.b.length = m := ⟨_, rfl⟩
    rw [hM, hmm] at h5
    rw [hM] at cp1 h4
    rw [hmm] at cp0
    have hsub : IntKind.i64.wrap ((M : Int) - (m : Int)) = ((M - m : Nat) : Int) := by rw [wrap_in] <;> omega
    obtain ⟨r, hr⟩ : ∃ r, M - m = r := ⟨_, rfl⟩
    rw [hr] at hsub
    have HS := Lib.hid (show w.drew.cell? ⟨x, 0, none⟩ = some (.pointer (some ⟨p, 0, none⟩)) ∧ w.drew.cell? ⟨y, 0, none⟩ = some (.slice A n c) ∧ w.drew.cell? ⟨p, 0, none⟩ = some (.slice A0 m c0) ∧ w.drew.cell? ⟨p, 1, none⟩ = some (.int .i64 (M : Int)) from ⟨cx, cy, cp0, cp1⟩)
    have HZ := Lib.hid (show w.drew.drew.cell? ⟨x, 0, none⟩ = some (.pointer (some ⟨p, 0, none⟩)) ∧ w.drew.drew.cell? ⟨y, 0, none⟩ = some (.slice A n c) ∧ w.drew.drew.cell? ⟨p, 0, none⟩ = some (.slice A0 m c0) from ⟨cx, cy, cp0⟩)
    have hrm : (takeS s b) = if r < n then (3, s) else (0, { s with b := s.b ++ b }) := by unfold takeS; rw [if_neg hc, hM, hmm, hr, hl]
    rw [hrm] at HRES
    have HMM := Lib.hid (show s.b.length = m ∧ b.length = n ∧ r = M - m ∧ m ≤ M ∧ M ≤ 16384 from ⟨hmm, hl.symm, hr.symm, h5, h4⟩)
    clear hx hy h2 h3 hb hc hrm hM hmm hr cp0 cp1 h4 h5 hl
    have h0M : p < w.heap.size := by omega
    clear hp hBs
    by_cases hlt : r < n
    · rw [if_pos hlt] at HRES
      have hr := HRES.out
      subst hr
      have hli : (r : Int) < (n : Int) := by omega
      clear HRES hlt
      go_enter Tryz.func30, Tryz.ntmps30
      go_wp2_with fail
      go_region_held3 (fun W => W.cell? ⟨x, 0, none⟩ = some (.pointer (some ⟨p, 0, none⟩)) ∧ W.cell? ⟨y, 0, none⟩ = some (.slice A n c) ∧ W.cell? ⟨p, 0, none⟩ = some (.slice A0 m c0) ∧ W.cell? ⟨p, 1, none⟩ = some (.int .i64 (M : Int)))
        (exact HS.out)
        (fail)
      go_wp2_with fail
      go_ret
      exact ⟨rfl, fun _ => ⟨by first | rfl | trivial, (Keeps.refl [] _).drew'⟩, fun h => by simp at h⟩
    · rw [if_neg hlt] at HRES
      have hr := HRES.out
      subst hr
      have hli : ¬ (r : Int) < (n : Int) := by omega
      have hlb : n ≤ 16384 := by have := HMM.out; omega
      clear HRES hlt
      go_enter Tryz.func30, Tryz.ntmps30
      go_wp2_with fail
      go_region_held3 (fun W => W.cell? ⟨x, 0, none⟩ = some (.pointer (some ⟨p, 0, none⟩)) ∧ W.cell? ⟨y, 0, none⟩ = some (.slice A n c) ∧ W.cell? ⟨p, 0, none⟩ = some (.slice A0 m c0) ∧ W.cell? ⟨p, 1, none⟩ = some (.int .i64 (M : Int)))
        (exact HS.out)
        (fail)
      have hd0 := HZ.out.1
      have hd1 := HZ.out.2.1
      have hd2 := HZ.out.2.2
      go_wp2_with fail
      clear cx cy cp2 HS hsub hli
      go_region_law (first
          | (refine step_append_B (.tmp 27) (.tmp 28) 22 rfl Tryz.underlying22 w.drew.drew.heap.size k1.size _ _ s.b (by rfl) ho1 _ b (by rfl) ((HB.out.keep0 (show Keeps [] w w.drew.drew from (Keeps.refl [] _).drew'.drew')).keep0 k1) (by have := HMM.out; omega) ?_; intro v2 w2 ho2 hg2 hb2; obtain ⟨A2, c2, rfl⟩ := own_slice ho2; have k2 : Keeps [] w.drew.drew w2 := grow_keeps k1 ho1 (Nat.le_refl _) hg2; clear hb2 hg2 k1 cx8 cy8; have cx9 : w2.cell? ⟨x, 0, none⟩ = some (.pointer (some ⟨p, 0, none⟩)) := cell_keeps k2 HZ.out.1 (by simp); have cp9 : w2.cell? ⟨p, 0, none⟩ = some (.slice A0 m c0) := cell_keeps k2 HZ.out.2.2 (by simp); have zp9 : w2.frozen? ⟨p, 0, none⟩ = false := free_of_block ((k2.block p h0M (by simp)).trans H2.out) 0)
          | (go_simp; go_at_call 31; refine (bclone_own w.drew.drew A0 m c0 s.b (by have h := H3.out.bytes; rw [HMM.out.1] at h; exact h) (by have := HMM.out; omega)).mono ?_; rintro e w1 ⟨v1, rfl, ho1, k1⟩; have cx8 : w1.cell? ⟨x, 0, none⟩ = some (.pointer (some ⟨p, 0, none⟩)) := cell_keeps k1 HZ.out.1 (by simp); have cy8 : w1.cell? ⟨y, 0, none⟩ = some (.slice A n c) := cell_keeps k1 HZ.out.2.1 (by simp)))
      all_goals
        have kk : Keeps [] w w2 := (show Keeps [] w w.drew.drew from (Keeps.refl [] _).drew'.drew').trans k2
        have fin : SnAt (w2.setCell ⟨p, 0, none⟩ (.slice A2 (s.b.length + b.length) c2)) w.heap.size p { s with b := s.b ++ b } ∧ Keeps [p] w (w2.setCell ⟨p, 0, none⟩ (.slice A2 (s.b.length + b.length) c2)) := by
          refine ⟨⟨h0M, Nat.le_trans kk.size (by simp), .slice A2 (s.b.length + b.length) c2, ?_, ?_⟩, ?_⟩
          · have hb9 := (kk.block p h0M (by simp)).trans H2.out
            exact heap_setCell_self hb9 0 _
          · have h9 : w2.ownsRow w.heap.size 5 1 (.slice A2 (s.b.length + b.length) c2) (s.b ++ b).length ((s.b ++ b).map u8V) := by rw [List.length_append]; exact ho2
            exact own_setCell h9 _ _ h0M
          · exact (kk.mono (by simp)).trans (Keeps.setCell w2 ⟨p, 0, none⟩ _)
        have FIN := Lib.hid fin
        clear kk ho2 k2 cp9 zp9 cx9 fin
        go_wp2_with fail
        go_ret
        exact ⟨rfl, fun h => absurd rfl h, fun _ => FIN.out⟩
end Go.Proofs.YtpoheemjdieogaaGreatDoor
