/-
  The walks of package reasm (2): New, a copy, Take. Condition: the buffer's numbers are in the ranges of their kinds.
-/
import Derived.Test.YtakgohocimlagaaGreatReasmW
import Derived.Deep.RegionHeldLaw
namespace Go.Proofs.YtakgohocimlagaaGreat
open Go.RowKit
set_option linter.unusedVariables false
set_option linter.unusedSimpArgs false

/-- A buffer in new blocks. -/
def MadeB (ptr : Nat → Value) (s : BS) (w : World) (e : Ending) (w' : World) : Prop :=
  ∃ b mb, e = .returned (ptr b) ∧ BuffAt w' b mb s ∧ Keeps [] w w' ∧ w.heap.size ≤ b ∧ w.heap.size ≤ mb

set_option maxHeartbeats 400000 in
theorem bnew_bad (w : World) (next room : Int) (hbad : room < 0 ∨ 16384 < room) :
    Calls Tryz.prog 29 #[.int .u32 next, .int .i64 room] w fun e w' => e = .returned (.tuple #[.pointer none, .int .i64 1]) ∧ w = w' := by
  by_cases h1 : room < 0
  · clear hbad
    go_enter Tryz.func29, Tryz.ntmps29
    go_wp2
    go_ret2
    exact ⟨rfl, rfl⟩
  · have h2 : 16384 < room := by omega
    clear hbad
    go_enter Tryz.func29, Tryz.ntmps29
    go_wp2
    go_ret2
    exact ⟨rfl, rfl⟩

theorem bmade_at (w : World) (next room : Int) (m : List (Int × UInt8)) (o : Obj) (t : Int) (h : MapAt (w.alloc o) w.heap.size .i64 u8V m) :
    BuffAt ((w.alloc o).alloc (.cells #[.int .u32 next, .int .i64 t, .int .i64 room, .map (some w.heap.size)] 94)) (w.heap.size + 1) w.heap.size ⟨next, t, room, m⟩ ∧
    Keeps [] w ((w.alloc o).alloc (.cells #[.int .u32 next, .int .i64 t, .int .i64 room, .map (some w.heap.size)] 94)) := by
  have s1 : (w.alloc o).heap.size = w.heap.size + 1 := by simp
  refine ⟨⟨?_, h.of_heap (Below.heap_alloc _ _ _ (by omega))⟩, (Keeps.alloc _ _ _).trans (Keeps.alloc _ _ _)⟩
  have := (MapKept.heap_alloc (w.alloc o) (.cells #[.int .u32 next, .int .i64 t, .int .i64 room, .map (some w.heap.size)] 94)).1
  rw [s1] at this
  exact this

set_option maxHeartbeats 400000 in
theorem bnew_ok (w : World) (next room : Int) (h0 : 0 ≤ room) (h1 : room ≤ 16384) :
    Calls Tryz.prog 29 #[.int .u32 next, .int .i64 room] w (MadeB (fun b => .tuple #[.pointer (some ⟨b, 0, none⟩), .int .i64 0]) ⟨next, 0, room, []⟩ w) := by
  have hmm := @run_makeMap Tryz.prog
  have fin := bmade_at w next room [] _ 0 (MapAt.made w .i64 u8V)
  have F := Lib.hid fin
  clear fin
  go_enter Tryz.func29, Tryz.ntmps29
  go_wp2
  go_ret2
  exact ⟨_, _, rfl, F.out.1, F.out.2, by omega, by omega⟩

/-! ### a copy -/
theorem run_typeAssert_map (P : Program) (w : World) (t xT k e : TypeId) (v : Value) (h : P.underlying t = some (.map k e)) : (Instr.typeAssert (.iface t v) xT t false).run P w = .ok v w := by
  simp [Instr.typeAssert, run_underlying h, go_sem, Result.andThen]
theorem run_maps_clone (P : Program) (w : World) {r : Nat} {es : Array MapEntry} {clock : Nat} (t : TypeId) (hb : w.heap[r]? = some (.map es clock)) :
    (Extern.MapsClone.clone #[.iface t (.map (some r))]).run P w = .ok (.iface t (.map (some w.heap.size))) (w.alloc (.map es clock)) := by
  have e : Extern.MapsClone.clone #[.iface t (.map (some r))] = (getObj r >>= fun o => match o with
      | .map entries clock => (newObj (.map entries clock) >>= fun n => pure (.iface t (.map (some n))))
      | _ => stuck "maps.clone: a map expected") := rfl
  rw [e]
  simp [MapKept.run_getObj_map hb, Result.andThen, go_sem]

set_option maxRecDepth 100000 in
set_option maxHeartbeats 400000 in
theorem clone_m0 (w : World) (b : Nat) (es : Array MapEntry) (clock : Nat) (hb : w.heap[b]? = some (.map es clock)) :
    Calls Tryz.prog 57 #[.map (some b)] w fun e w' => e = .returned (.map (some w.heap.size)) ∧ w.alloc (.map es clock) = w' := by
  have hq := fun w => run_eql_map_nil (P := Tryz.prog) w _ _ _ (some b) Tryz.underlying92
  go_enter Tryz.func57, Tryz.ntmps57
  go_wp2
  rw [run_callFunc_extern Tryz.func87 (by kernel_rfl) (by kernel_rfl) (by kernel_rfl) (e := Extern.MapsClone.clone) (by kernel_rfl), run_maps_clone Tryz.prog w 92 hb]
  simp only [Result.andThen]
  rw [Oper.upon_value]
  go_wp2
  rw [run_typeAssert_map Tryz.prog _ 92 20 _ _ _ Tryz.underlying92]
  simp only [Result.andThen]
  rw [Oper.upon_value]
  go_wp2
  go_ret
  exact ⟨rfl, rfl⟩
/-- maps.Clone. -/
theorem clone_m {w : World} {mb : Nat} {m : List (Int × UInt8)} (h : MapAt w mb .i64 u8V m) :
    Calls Tryz.prog 57 #[.map (some mb)] w fun e w' => e = .returned (.map (some w.heap.size)) ∧ MapAt w' w.heap.size .i64 u8V m ∧ Keeps [] w w' := by
  obtain ⟨es, ck, h1, h2⟩ := h
  refine (clone_m0 w mb es ck h1).mono ?_
  rintro e w' ⟨rfl, rfl⟩
  exact ⟨rfl, ⟨es, ck, (MapKept.heap_alloc w _).1, h2⟩, Keeps.alloc _ _ _⟩

set_option maxRecDepth 100000 in
set_option maxHeartbeats 1000000 in
theorem bcopy_any {w : World} {b mb : Nat} {s : BS} (h : BuffAt w b mb s) :
    Calls Tryz.prog 31 #[.pointer (some ⟨b, 0, none⟩)] w (MadeB (fun b => .pointer (some ⟨b, 0, none⟩)) s w) := by
  have h0 := h.c0
  have h1 := h.c1
  have h2 := h.c2
  have h3 := h.c3
  obtain ⟨es, ck, hm, hl⟩ := h.map
  have HN := Lib.hid (bnone_any h)
  have HM := Lib.hid hm
  have fin : BuffAt ((w.drew.alloc (.map es ck)).alloc (.cells #[.int .u32 s.first, .int .i64 s.taken, .int .i64 s.room, .map (some w.heap.size)] 94)) (w.heap.size + 1) w.heap.size s ∧
      Keeps [] w ((w.drew.alloc (.map es ck)).alloc (.cells #[.int .u32 s.first, .int .i64 s.taken, .int .i64 s.room, .map (some w.heap.size)] 94)) := by
    have := bmade_at w.drew s.first s.room s.m (.map es ck) s.taken ⟨es, ck, (MapKept.heap_alloc w.drew _).1, hl⟩
    exact ⟨this.1, (Keeps.drew _ _).trans this.2⟩
  have F := Lib.hid fin
  clear h hm hl fin
  go_enter Tryz.func31, Tryz.ntmps31
  go_wp2_with fail
  refine HN.out.mono ?_
  rintro e w1 ⟨rfl, rfl⟩
  clear HN
  go_wp2_with fail
  go_region_held3 (fun w' => w'.cell? ⟨b, 0, none⟩ = some (.int .u32 s.first) ∧ w'.cell? ⟨b, 1, none⟩ = some (.int .i64 s.taken) ∧ w'.cell? ⟨b, 2, none⟩ = some (.int .i64 s.room) ∧ w'.cell? ⟨b, 3, none⟩ = some (.map (some mb))) (go_keep) (first | (go_at_call 57; refine (clone_m0 _ _ es ck (by exact HM.out)).mono ?_; rintro e w' ⟨rfl, rfl⟩))
  go_wp2_with fail
  go_ret
  exact ⟨_, _, rfl, F.out.1, F.out.2, by omega, by omega⟩
end Go.Proofs.YtakgohocimlagaaGreat
