/-
  The walks of package reasm (1): a buffer in memory; none, at, Next, Room, Ready. Condition: the buffer's numbers are in the ranges of their kinds.
-/
import Derived.Test.YtakgohocimlagaaGreatSeqCut
import Derived.Deep.RegionHeld3
import Derived.StillTailTactics
namespace Go.Proofs.YtakgohocimlagaaGreat
open Go.RowKit
set_option linter.unusedVariables false
set_option linter.unusedSimpArgs false

/-- A buffer's plain state. -/
structure BS where
  first : Int
  taken : Int
  room : Int
  m : List (Int × UInt8)

structure BS.ok (s : BS) : Prop where
  f : U32 s.first
  t0 : 0 ≤ s.taken
  tr : s.taken ≤ s.room
  r : s.room ≤ 16384
  keys : ∀ k ∈ AL.keys s.m, s.taken ≤ k ∧ k < s.room
  nd : (AL.keys s.m).Nodup

/-- Block b of w is the buffer s, its map in block mb. -/
structure BuffAt (w : World) (b mb : Nat) (s : BS) : Prop where
  head : w.heap[b]? = some (.cells #[.int .u32 s.first, .int .i64 s.taken, .int .i64 s.room, .map (some mb)] 94 (0, 0))
  map : MapAt w mb .i64 u8V s.m

theorem BuffAt.c0 {w : World} {b mb : Nat} {s : BS} (h : BuffAt w b mb s) : w.cell? ⟨b, 0, none⟩ = some (.int .u32 s.first) := cell_of_block h.head 0
theorem BuffAt.c1 {w : World} {b mb : Nat} {s : BS} (h : BuffAt w b mb s) : w.cell? ⟨b, 1, none⟩ = some (.int .i64 s.taken) := cell_of_block h.head 1
theorem BuffAt.c2 {w : World} {b mb : Nat} {s : BS} (h : BuffAt w b mb s) : w.cell? ⟨b, 2, none⟩ = some (.int .i64 s.room) := cell_of_block h.head 2
theorem BuffAt.c3 {w : World} {b mb : Nat} {s : BS} (h : BuffAt w b mb s) : w.cell? ⟨b, 3, none⟩ = some (.map (some mb)) := cell_of_block h.head 3
theorem BuffAt.fz {w : World} {b mb : Nat} {s : BS} (h : BuffAt w b mb s) (k : Nat) : w.frozen? ⟨b, k, none⟩ = false := free_of_block h.head k
theorem BuffAt.ne {w : World} {b mb : Nat} {s : BS} (h : BuffAt w b mb s) : b ≠ mb := by
  intro e; subst e
  obtain ⟨es, c, h1, _⟩ := h.map
  rw [h.head] at h1; cases h1
theorem BuffAt.keep {w w' : World} {b mb : Nat} {s : BS} {S : List Nat} (h : BuffAt w b mb s) (k : Keeps S w w') (h1 : b ∉ S) (h2 : mb ∉ S) : BuffAt w' b mb s :=
  ⟨(k.block _ (lt_of_block h.head) h1).trans h.head, h.map.of_heap (k.block _ h.map.lt h2)⟩
theorem BuffAt.drewN {w : World} {b mb : Nat} {s : BS} (h : BuffAt w b mb s) (n : Nat) : BuffAt (w.drewN n) b mb s := ⟨h.head, h.map⟩
theorem Tryz.zeroU8 (w : World) : (zeroValue 5).run Tryz.prog w = .ok (.int .u8 0) w := by kernel_rfl
/-- 'm[k]', with 'ok'. -/
theorem BuffAt.look {w : World} {b mb : Nat} {s : BS} (h : BuffAt w b mb s) (p : Int) (n : Nat) :
    (Instr.lookup 92 (.map (some mb)) (.int .i64 p) true).run Tryz.prog (w.drewN n) = .ok (.tuple #[((AL.find p s.m).map u8V).getD (.int .u8 0), .bool (AL.find p s.m).isSome]) (w.drewN n) :=
  h.map.look (P := Tryz.prog) Tryz.underlying92 Tryz.underlying3 Tryz.zeroU8 p (w.drewN n) rfl true

set_option maxHeartbeats 400000 in
theorem bnone_nil (w : World) : Calls Tryz.prog 56 #[.pointer none] w fun e w' => e = .returned (.bool true) ∧ w = w' := by
  go_enter Tryz.func56, Tryz.ntmps56
  go_wp2
  go_ret
  exact ⟨rfl, rfl⟩
set_option maxHeartbeats 400000 in
theorem bnone_any {w : World} {b mb : Nat} {s : BS} (h : BuffAt w b mb s) : Calls Tryz.prog 56 #[.pointer (some ⟨b, 0, none⟩)] w fun e w' => e = .returned (.bool false) ∧ w = w' := by
  have h3 := h.c3
  clear h
  have hk := fun w => run_eql_map_nil (P := Tryz.prog) w _ _ _ (some mb) Tryz.underlying92
  go_enter Tryz.func56, Tryz.ntmps56
  go_wp2
  go_ret
  exact ⟨rfl, rfl⟩

set_option maxHeartbeats 400000 in
theorem bat_any {w : World} {b mb : Nat} {s : BS} (h : BuffAt w b mb s) (hs : U32 s.first) (p : Int) (h0 : 0 ≤ p) (h1 : p ≤ 1073741824) :
    Calls Tryz.prog 59 #[.pointer (some ⟨b, 0, none⟩), .int .i64 p] w fun e w' => e = .returned (.int .u32 (addI s.first p)) ∧ w = w' := by
  have h3 := h.c0
  clear h
  go_enter Tryz.func59, Tryz.ntmps59
  go_wp2_with fail
  refine (add_any _ s.first p hs).mono ?_
  rintro e w1 ⟨rfl, rfl⟩
  go_wp2
  go_ret
  exact ⟨rfl, rfl⟩

def BS.next (s : BS) : Int := addI s.first s.taken
theorem BS.next_bd (s : BS) : U32 s.next := addI_bd _ _

set_option maxHeartbeats 400000 in
theorem bnext_any {w : World} {b mb : Nat} {s : BS} (h : BuffAt w b mb s) (ok : s.ok) :
    Calls Tryz.prog 36 #[.pointer (some ⟨b, 0, none⟩)] w fun e w' => e = .returned (.int .u32 s.next) ∧ w = w' := by
  have h1 := h.c1
  have t0 := ok.t0
  have t1 := ok.tr
  have t2 := ok.r
  go_enter Tryz.func36, Tryz.ntmps36
  go_wp2_with fail
  refine (bnone_any h).mono ?_
  rintro e w1 ⟨rfl, rfl⟩
  go_wp2_with fail
  refine (bat_any h ok.f s.taken t0 (by omega)).mono ?_
  rintro e w1 ⟨rfl, rfl⟩
  go_wp2
  go_ret
  exact ⟨rfl, rfl⟩

set_option maxHeartbeats 400000 in
theorem broom_any {w : World} {b mb : Nat} {s : BS} (h : BuffAt w b mb s) (ok : s.ok) :
    Calls Tryz.prog 35 #[.pointer (some ⟨b, 0, none⟩)] w fun e w' => e = .returned (.int .i64 (s.room - s.taken)) ∧ ∃ n, w' = w.drewN n := by
  have h1 := h.c1
  have h2 := h.c2
  have t0 := ok.t0
  have t1 := ok.tr
  have t2 := ok.r
  go_enter Tryz.func35, Tryz.ntmps35
  go_wp2_with fail
  refine (bnone_any h).mono ?_
  rintro e w1 ⟨rfl, rfl⟩
  clear h
  go_wp2_with fail
  go_quiet (fail)
  go_wp2
  go_ret
  exact ⟨rfl, _, rfl⟩

/-! ### Ready -/
/-- how many places from k on have bytes, at most f -/
def rdy (m : List (Int × UInt8)) : Nat → Int → Nat
  | 0, _ => 0
  | f + 1, k => match AL.find k m with
    | some _ => rdy m f (k + 1) + 1
    | none => 0
def BS.ready (s : BS) : Nat := rdy s.m (s.room - s.taken).toNat s.taken
theorem rdy_le (m : List (Int × UInt8)) : ∀ (f : Nat) (k : Int), rdy m f k ≤ f
  | 0, k => Nat.le_refl _
  | f + 1, k => by
    unfold rdy
    split
    · have := rdy_le m f (k + 1); omega
    · omega
theorem rdy_in (m : List (Int × UInt8)) : ∀ (f : Nat) (k : Int) (i : Nat), i < rdy m f k → ∃ x, AL.find (k + i) m = some x
  | 0, k, i, h => by simp [rdy] at h
  | f + 1, k, i, h => by
    unfold rdy at h
    split at h
    · rename_i x hx
      cases i with
      | zero => exact ⟨x, by simpa using hx⟩
      | succ i =>
        obtain ⟨y, hy⟩ := rdy_in m f (k + 1) i (by omega)
        exact ⟨y, by rw [← hy]; congr 1; omega⟩
    · omega
theorem rdy_end (m : List (Int × UInt8)) : ∀ (f : Nat) (k : Int), AL.find (k + f) m = none → AL.find (k + rdy m f k) m = none
  | 0, k, h => by simpa [rdy] using h
  | f + 1, k, h => by
    unfold rdy
    split
    · have := rdy_end m f (k + 1) (by rw [← h]; congr 1; omega)
      rw [← this]; congr 1; push_cast; omega
    · simpa
theorem BS.ready_in (s : BS) (i : Nat) (h : i < s.ready) : ∃ x, AL.find (s.taken + i) s.m = some x := rdy_in _ _ _ _ h
theorem BS.ready_end {s : BS} (ok : s.ok) : AL.find (s.taken + s.ready) s.m = none := by
  refine rdy_end _ _ _ ?_
  have := ok.tr
  rw [AL.find_none]
  intro hk
  have := ok.keys _ hk
  omega
theorem BS.ready_le {s : BS} (ok : s.ok) : s.taken + s.ready ≤ s.room := by
  have := rdy_le s.m (s.room - s.taken).toNat s.taken
  have := ok.tr
  unfold BS.ready
  omega

set_option maxHeartbeats 1000000 in
theorem bready_any {w : World} {b mb : Nat} {s : BS} (h : BuffAt w b mb s) (ok : s.ok) :
    Calls Tryz.prog 94 #[.pointer (some ⟨b, 0, none⟩)] w fun e w' => e = .returned (.int .i64 s.ready) ∧ ∃ n, w' = w.drewN n := by
  have h1 := h.c1
  have h3 := h.c3
  have hl := h.look
  have t0 := ok.t0
  have t1 := ok.tr
  have t2 := ok.r
  have r1 := s.ready_in
  have r2 := BS.ready_end ok
  have r3 := BS.ready_le ok
  have hn := Lib.hid (bnone_any h)
  clear h ok
  generalize s.ready = r at *
  have HL := Lib.hid hl
  have R1 := Lib.hid r1
  have R2 := Lib.hid r2
  clear hl r1 r2
  go_enter Tryz.func94, Tryz.ntmps94
  go_wp2_with fail
  refine hn.out.mono ?_
  rintro e w1 ⟨rfl, rfl⟩
  clear hn
  go_wp2_with fail
  go_loopw [3] (fun n wr => ∃ (k : Nat) (d : Nat), n = .int .i64 k ∧ k ≤ r ∧ wr = w.drewN d) (fun n _ => r - (intOf n).toNat)
  case atStart => exact ⟨0, 0, rfl, by omega, rfl⟩
  case round =>
    obtain ⟨k, d, rfl, hk, rfl⟩ := hrel
    have g1 : (w.drewN d).cell? ⟨b, 1, none⟩ = some (.int .i64 s.taken) := h1
    have g3 : (w.drewN d).cell? ⟨b, 3, none⟩ = some (.map (some mb)) := h3
    by_cases hlt : k < r
    · obtain ⟨x, hx⟩ := R1.out k hlt
      have hl := fun n => HL.out (s.taken + k) (d + n)
      rw [hx] at hl
      simp only [Option.map_some, Option.getD_some, Option.isSome_some] at hl
      clear hx
      go_wp2_with fail
      go_quiet (fail)
      go_wp2_with fail
      go_roundw
      case rel => exact ⟨k + 1, _, by simp, by omega, rfl⟩
      case measure => simp [intOf]; omega
    · obtain rfl : k = r := by omega
      have hl := fun n => HL.out (s.taken + k) (d + n)
      rw [R2.out] at hl
      simp only [Option.map_none, Option.getD_none, Option.isSome_none] at hl
      go_wp2_with fail
      go_quiet (fail)
      go_wp2_with fail
      go_ret
      exact ⟨rfl, _, rfl⟩
end Go.Proofs.YtakgohocimlagaaGreat
