/-
  The walks of package host: its ACK alone, its RST, up, last, what it tells, its copy. Condition: a host's numbers are in the ranges of their kinds.
-/
import Derived.Test.YtgaidloicmkdaaaHostT
import Derived.Deep.DrawnRows
namespace Go.Proofs.Ytgaidloicmkdaaa
open Go.RowKit
set_option linter.unusedVariables false
set_option linter.unusedSimpArgs false

def segC (s : Seg) (ov dv : Value) : List Value := [.int .u16 s.sp, .int .u16 s.dp, .int .u32 s.sq, .int .u32 s.ak, .int .u8 s.fl, .int .u16 s.wn, .int .u16 s.ug, ov, dv]
/-- The slice value v holds the segment s alone; its options and data are the values ov, dv. -/
def OneSeg (w : World) (v : Value) (s : Seg) (ov dv : Value) : Prop :=
  ∃ g c, v = .slice (some ⟨g, 0, none⟩) 1 c ∧ 1 ≤ c ∧ c ≤ maxLen ∧ (∀ k u, (segC s ov dv)[k]? = some u → w.cell? ⟨g, k, none⟩ = some u) ∧ SegAt w s ov dv
theorem two_allocs (w : World) (o1 o2 : Obj) : ((w.alloc o1).alloc o2).heap[w.heap.size]? = some o1 ∧ ((w.alloc o1).alloc o2).heap[w.heap.size + 1]? = some o2 := by
  have h := (MapKept.heap_alloc (w.alloc o1) o2).1
  have e : (w.alloc o1).heap.size = w.heap.size + 1 := by simp
  rw [e] at h
  exact ⟨(Below.heap_alloc (w.alloc o1) o2 w.heap.size (by simp)).trans (MapKept.heap_alloc w o1).1, h⟩
theorem SegAt.keep0 {w w' : World} {s : Seg} {ov dv : Value} (h : SegAt w s ov dv) (k : Keeps [] w w') : SegAt w' s ov dv := ⟨h.1.keep0 k, h.2.keep0 k⟩
theorem SegAt.keep {w w' : World} {s : Seg} {ov dv : Value} {b : Nat} (h : SegAt w s ov dv) (k : Keeps [b] w w') (hb : NoU8 w b) : SegAt w' s ov dv := ⟨h.1.keep k hb, h.2.keep k hb⟩
theorem OneSeg.keep0 {w w' : World} {v : Value} {s : Seg} {ov dv : Value} (h : OneSeg w v s ov dv) (k : Keeps [] w w') : OneSeg w' v s ov dv := by
  obtain ⟨g, c, e, h1, h2, h3, h4⟩ := h
  exact ⟨g, c, e, h1, h2, fun i u hu => cell_keeps k (h3 i u hu) (by simp), h4.keep0 k⟩
theorem OneSeg.keep {w w' : World} {v : Value} {s : Seg} {ov dv : Value} {b : Nat} (h : OneSeg w v s ov dv) (k : Keeps [b] w w') (hb : NoU8 w b) : OneSeg w' v s ov dv := by
  obtain ⟨g, c, e, h1, h2, h3, h4⟩ := h
  have hg : g ≠ b := by rintro rfl; exact hb _ _ (h3 4 _ rfl)
  exact ⟨g, c, e, h1, h2, fun i u hu => cell_keeps k (h3 i u hu) (by simpa using hg), h4.keep k hb⟩
theorem OneSeg.block {w : World} {g : Nat} {t : TypeId} {z : Nat × Nat} {s : Seg} {ov dv : Value} (h : w.heap[g]? = some (.cells (segC s ov dv).toArray t z)) (hs : SegAt w s ov dv) : OneSeg w (.slice (some ⟨g, 0, none⟩) 1 1) s ov dv :=
  ⟨g, 1, rfl, Nat.le_refl _, by simp [maxLen], fun k u hu => by simp [World.cell?, h, hu], hs⟩
theorem SegAt.nil (w : World) (s : Seg) (h1 : s.ops = []) (h2 : s.data = []) : SegAt w s (.slice none 0 0) (.slice none 0 0) := ⟨by rw [h1]; exact OptsV.nil w, by rw [h2]; exact BytesV.nil w⟩

set_option maxRecDepth 100000 in
set_option maxHeartbeats 1000000 in
theorem hacks_any {w : World} {b : Nat} {s : HS} (h : HostAt w b s) (ok : s.Ok) :
    Calls Try.prog 40 #[.pointer (some ⟨b, 0, none⟩)] w fun e w' => ∃ v, e = .returned v ∧ OneSeg w' v s.ack (.slice none 0 0) (.slice none 0 0) ∧ Keeps [] w w' := by
  have HA := Lib.hid (hack_any h ok)
  clear h ok
  go_enter Try.func40, Try.ntmps40
  go_wp2_with fail
  refine HA.out.mono ?_
  rintro e w1 ⟨rfl, k1⟩
  have K1 := Lib.hid k1
  clear k1
  unfold HS.ack segV
  go_wp2_with fail
  go_ret
  exact ⟨_, rfl, OneSeg.block (MapKept.heap_alloc w1 _).1 (SegAt.nil _ _ rfl rfl), K1.out.alloc' _⟩

set_option maxRecDepth 100000 in
set_option maxHeartbeats 1000000 in
theorem hrst_any {w : World} {b : Nat} {s : HS} (h : HostAt w b s) (g : Seg) (ov dv : Value) :
    Calls Try.prog 52 #[.pointer (some ⟨b, 0, none⟩), segV g ov dv] w fun e w' => ∃ v, e = .returned v ∧ OneSeg w' v ⟨s.lp, g.sp, g.ak, 0, 4, 0, 0, [], []⟩ (.slice none 0 0) (.slice none 0 0) ∧ Keeps [] w w' := by
  have HA := Lib.hid (hbare_any (h.keep0 (Keeps.alloc [] w (.cells #[.int .u16 g.sp, .int .u16 g.dp, .int .u32 g.sq, .int .u32 g.ak, .int .u8 g.fl, .int .u16 g.wn, .int .u16 g.ug, ov, dv] 30))))
  clear h
  unfold segV
  go_enter Try.func52, Try.ntmps52
  go_wp2_with fail
  refine HA.out.mono ?_
  rintro e w1 ⟨rfl, k1⟩
  have hx := (k1.block w.heap.size (by simp) (by simp)).trans (MapKept.heap_alloc w _).1
  have K1 := Lib.hid ((Keeps.alloc [] w _).trans k1)
  have hlt := (Array.getElem?_eq_some_iff.1 hx).1
  clear k1
  unfold HS.bare segV
  have hxc0 := cell_of_block hx 0
  have hxc3 := cell_of_block hx 3
  simp at hxc0 hxc3
  have hxf0 := free_of_block hx 0
  have hxf3 := free_of_block hx 3
  clear hx
  go_wp2_with fail
  go_region
  go_wp2_with fail
  go_ret
  refine ⟨_, rfl, OneSeg.keep0 (OneSeg.block (two_allocs w1 _ _).2 (SegAt.nil _ _ rfl rfl)) (Keeps.drew _ _), ?_⟩
  have kw := K1.out
  refine Keeps.trans kw ?_
  (repeat (first | with_reducible exact Keeps.refl _ _ | with_reducible apply Keeps.alloc' | with_reducible apply Keeps.drew' | with_reducible apply Keeps.drewN' | (with_reducible apply Keeps.setCell'; rotate_left; · simp)))

set_option maxRecDepth 100000 in
set_option maxHeartbeats 1000000 in
theorem hup_any {w : World} {b : Nat} {s : HS} (h : HostAt w b s) (hi : U32 s.iss) (hc : s.closed = false) :
    Calls Try.prog 55 #[.pointer (some ⟨b, 0, none⟩)] w fun e w' => e = .returned (.tuple #[]) ∧ HostAt w' b { s with una := (s.iss + 1) % 4294967296, set := false, st := 4 } ∧ Keeps [b] w w' := by
  have hx := h.head
  have c1 := h.c1
  have c8 := h.c8
  have c10 := h.c10
  have c13 := h.c13
  have c26 := h.c26
  have z8 := h.fz 8
  have z10 := h.fz 10
  have z26 := h.fz 26
  rw [hc] at c13
  obtain ⟨i0, i1⟩ := hi
  have H := Lib.hid h
  clear h hc hx
  go_enter Try.func55, Try.ntmps55
  go_wp2_with fail
  go_end0
  refine ⟨rfl, ((H.out.s10 _).s26 _).s8 _, ?_⟩
  (repeat (first | with_reducible exact Keeps.refl _ _ | with_reducible apply Keeps.alloc' | with_reducible apply Keeps.drew' | with_reducible apply Keeps.drewN' | (with_reducible apply Keeps.setCell'; rotate_left; · simp)))

set_option maxRecDepth 100000 in
set_option maxHeartbeats 1000000 in
theorem hlast_any {w : World} {b : Nat} {s : HS} (h : HostAt w b s) (now : Int) (r0 : 0 ≤ s.rto) (r1 : s.rto ≤ 1073741824) (n0 : 0 ≤ now) (n1 : now ≤ 4398046511104) :
    Calls Try.prog 58 #[.pointer (some ⟨b, 0, none⟩), .int .u64 now] w fun e w' => e = .returned (.tuple #[]) ∧ HostAt w' b { s with st := 10, set := true, alarm := now + 8 * s.rto } ∧ Keeps [b] w w' := by
  have c6 := h.c6
  have c8 := h.c8
  have c26 := h.c26
  have c27 := h.c27
  have z8 := h.fz 8
  have z26 := h.fz 26
  have z27 := h.fz 27
  have H := Lib.hid h
  clear h
  go_enter Try.func58, Try.ntmps58
  go_wp2_with fail
  go_end0
  refine ⟨rfl, ((H.out.s8 _).s26 _).s27 _, ?_⟩
  (repeat (first | with_reducible exact Keeps.refl _ _ | with_reducible apply Keeps.alloc' | with_reducible apply Keeps.drew' | with_reducible apply Keeps.drewN' | (with_reducible apply Keeps.setCell'; rotate_left; · simp)))

/-! ### what it tells -/
set_option maxHeartbeats 400000 in
theorem hstate_any {w : World} {b : Nat} {s : HS} (h : HostAt w b s) (h1 : 1 ≤ s.st) :
    Calls Try.prog 11 #[.pointer (some ⟨b, 0, none⟩)] w fun e w' => e = .returned (.int .i64 s.st) ∧ w = w' := by
  have HN := Lib.hid (hnone_no h h1)
  have c8 := h.c8
  clear h
  go_enter Try.func11, Try.ntmps11
  go_wp2_with fail
  refine HN.out.mono ?_
  rintro e w1 ⟨rfl, rfl⟩
  go_wp2_with fail
  go_ret
  exact ⟨rfl, rfl⟩
set_option maxHeartbeats 400000 in
theorem hremote_any {w : World} {b : Nat} {s : HS} (h : HostAt w b s) (h1 : 1 ≤ s.st) :
    Calls Try.prog 12 #[.pointer (some ⟨b, 0, none⟩)] w fun e w' => e = .returned (.int .u16 s.rem) ∧ w = w' := by
  have HN := Lib.hid (hnone_no h h1)
  have c9 := h.c9
  clear h
  go_enter Try.func12, Try.ntmps12
  go_wp2_with fail
  refine HN.out.mono ?_
  rintro e w1 ⟨rfl, rfl⟩
  go_wp2_with fail
  go_ret
  exact ⟨rfl, rfl⟩
set_option maxHeartbeats 400000 in
theorem hended_any {w : World} {b : Nat} {s : HS} (h : HostAt w b s) (h1 : 1 ≤ s.st) :
    Calls Try.prog 25 #[.pointer (some ⟨b, 0, none⟩)] w fun e w' => e = .returned (.bool s.ended) ∧ w = w' := by
  have HN := Lib.hid (hnone_no h h1)
  have c18 := h.c18
  clear h
  go_enter Try.func25, Try.ntmps25
  go_wp2_with fail
  refine HN.out.mono ?_
  rintro e w1 ⟨rfl, rfl⟩
  go_wp2_with fail
  go_ret
  exact ⟨rfl, rfl⟩
set_option maxHeartbeats 400000 in
theorem hgot_any {w : World} {b : Nat} {s : HS} (h : HostAt w b s) (h1 : 1 ≤ s.st) (hl : s.inn.length ≤ 1073741824) :
    Calls Try.prog 17 #[.pointer (some ⟨b, 0, none⟩)] w fun e w' => ∃ A c, e = .returned (.slice A s.inn.length c) ∧ BytesV w' (.slice A s.inn.length c) s.inn ∧ Keeps [] w w' := by
  have HN := Lib.hid (hnone_no h h1)
  have HC := Lib.hid (bclone_any w s.innA s.inn.length s.innC s.inn h.inn (by omega))
  have c16 := h.c16
  clear h
  go_enter Try.func17, Try.ntmps17
  go_wp2_with fail
  refine HN.out.mono ?_
  rintro e w1 ⟨rfl, rfl⟩
  go_wp2_with fail
  refine HC.out.mono ?_
  rintro e w1 ⟨v, rfl, b1, k1⟩
  obtain ⟨A, c, rfl⟩ := b1.slice
  have B1 := Lib.hid b1
  have K1 := Lib.hid k1
  clear b1 k1
  go_wp2_with fail
  go_ret
  exact ⟨A, c, rfl, B1.out, K1.out⟩
set_option maxHeartbeats 400000 in
theorem halarm_set {w : World} {b : Nat} {s : HS} (h : HostAt w b s) (h1 : 1 ≤ s.st) (h2 : s.st ≤ 10) (hs : s.set = true) :
    Calls Try.prog 23 #[.pointer (some ⟨b, 0, none⟩)] w fun e w' => e = .returned (.tuple #[.int .u64 s.alarm, .bool true]) ∧ w = w' := by
  have HN := Lib.hid (hnone_no h h1)
  have HG := Lib.hid (hgone_no h h2)
  have c26 := h.c26
  have c27 := h.c27
  rw [hs] at c26
  clear h hs
  go_enter Try.func23, Try.ntmps23
  go_wp2_with fail
  refine HN.out.mono ?_
  rintro e w1 ⟨rfl, rfl⟩
  go_wp2_with fail
  refine HG.out.mono ?_
  rintro e w1 ⟨rfl, rfl⟩
  go_wp2_with fail
  go_ret2
  exact ⟨rfl, rfl⟩
set_option maxHeartbeats 400000 in
theorem halarm_gone {w : World} {b : Nat} {s : HS} (h : HostAt w b s) (h2 : 11 ≤ s.st) :
    Calls Try.prog 23 #[.pointer (some ⟨b, 0, none⟩)] w fun e w' => e = .returned (.tuple #[.int .u64 0, .bool false]) ∧ w = w' := by
  have HN := Lib.hid (hnone_no h (by omega))
  have HG := Lib.hid (hgone_yes h h2)
  clear h
  go_enter Try.func23, Try.ntmps23
  go_wp2_with fail
  refine HN.out.mono ?_
  rintro e w1 ⟨rfl, rfl⟩
  go_wp2_with fail
  refine HG.out.mono ?_
  rintro e w1 ⟨rfl, rfl⟩
  go_wp2_with fail
  go_ret2
  exact ⟨rfl, rfl⟩
end Go.Proofs.Ytgaidloicmkdaaa
