/-
  An end's plain state (package endp), as it lies in memory; what a store does to it. No condition. The walks of package endp (1): none, over, State, Ended, Bytes, bare, window; an end's ACK towards a client. Condition: an end's numbers are in the ranges of their kinds. The walks of package endp (2): acks, window; a client's segment that is only answered, or that resets. Condition: the numbers are in the ranges of their kinds.
-/
import Derived.Test.YtakgohocimlagaaGreatSegs
import Derived.Test.YtakgohocimlagaaGreatReasmX
import Derived.BigRegion
namespace Go.Proofs.YtakgohocimlagaaGreat
open Go.RowKit
set_option linter.unusedVariables false
set_option linter.unusedSimpArgs false

/-- An end's plain state: its setup, its facts, where it stands, its buffers. -/
structure ES where
  loc : Int
  rem : Int
  iss : Int
  smss : Int
  sscl : Int
  ssack : Bool
  room : Int
  rto : Int
  tries : Int
  fiss : Int
  irs : Int
  mss : Int
  scl : Int
  sack : Bool
  win : Int
  st : Int
  inp : Value
  tak : Value
  ended : Bool
  out : Value
  wri : Value
  alarm : Int
  wait : Int
  cnt : Int
def ES.cells (s : ES) : Array Value := #[.int .u16 s.loc, .int .u16 s.rem, .int .u32 s.iss, .int .u16 s.smss, .int .i64 s.sscl, .bool s.ssack, .int .i64 s.room, .int .u64 s.rto, .int .i64 s.tries, .int .u32 s.fiss, .int .u32 s.irs, .int .u16 s.mss, .int .i64 s.scl, .bool s.sack, .int .u32 s.win, .int .i64 s.st, s.inp, s.tak, .bool s.ended, s.out, s.wri, .int .u64 s.alarm, .int .u64 s.wait, .int .i64 s.cnt]
/-- Block x of w is the end s. -/
def EndAt (w : World) (x : Nat) (s : ES) : Prop := w.heap[x]? = some (.cells s.cells 66 (0, 0))
theorem EndAt.lt {w : World} {b : Nat} {s : ES} (h : EndAt w b s) : b < w.heap.size := (Array.getElem?_eq_some_iff.1 h).1
theorem EndAt.fz {w : World} {b : Nat} {s : ES} (h : EndAt w b s) (k : Nat) : w.frozen? ⟨b, k, none⟩ = false := free_of_block h k
theorem EndAt.keep {w w' : World} {b : Nat} {s : ES} {S : List Nat} (h : EndAt w b s) (k : Keeps S w w') (h1 : b ∉ S) : EndAt w' b s := (k.block b h.lt h1).trans h
theorem EndAt.keep0 {w w' : World} {b : Nat} {s : ES} (h : EndAt w b s) (k : Keeps [] w w') : EndAt w' b s := h.keep k (by simp)
theorem EndAt.c0 {w : World} {b : Nat} {s : ES} (h : EndAt w b s) : w.cell? ⟨b, 0, none⟩ = some (.int .u16 s.loc) := cell_of_block h 0
theorem EndAt.c1 {w : World} {b : Nat} {s : ES} (h : EndAt w b s) : w.cell? ⟨b, 1, none⟩ = some (.int .u16 s.rem) := cell_of_block h 1
theorem EndAt.c2 {w : World} {b : Nat} {s : ES} (h : EndAt w b s) : w.cell? ⟨b, 2, none⟩ = some (.int .u32 s.iss) := cell_of_block h 2
theorem EndAt.c3 {w : World} {b : Nat} {s : ES} (h : EndAt w b s) : w.cell? ⟨b, 3, none⟩ = some (.int .u16 s.smss) := cell_of_block h 3
theorem EndAt.c4 {w : World} {b : Nat} {s : ES} (h : EndAt w b s) : w.cell? ⟨b, 4, none⟩ = some (.int .i64 s.sscl) := cell_of_block h 4
theorem EndAt.c5 {w : World} {b : Nat} {s : ES} (h : EndAt w b s) : w.cell? ⟨b, 5, none⟩ = some (.bool s.ssack) := cell_of_block h 5
theorem EndAt.c6 {w : World} {b : Nat} {s : ES} (h : EndAt w b s) : w.cell? ⟨b, 6, none⟩ = some (.int .i64 s.room) := cell_of_block h 6
theorem EndAt.c7 {w : World} {b : Nat} {s : ES} (h : EndAt w b s) : w.cell? ⟨b, 7, none⟩ = some (.int .u64 s.rto) := cell_of_block h 7
theorem EndAt.c8 {w : World} {b : Nat} {s : ES} (h : EndAt w b s) : w.cell? ⟨b, 8, none⟩ = some (.int .i64 s.tries) := cell_of_block h 8
theorem EndAt.c9 {w : World} {b : Nat} {s : ES} (h : EndAt w b s) : w.cell? ⟨b, 9, none⟩ = some (.int .u32 s.fiss) := cell_of_block h 9
theorem EndAt.c10 {w : World} {b : Nat} {s : ES} (h : EndAt w b s) : w.cell? ⟨b, 10, none⟩ = some (.int .u32 s.irs) := cell_of_block h 10
theorem EndAt.c11 {w : World} {b : Nat} {s : ES} (h : EndAt w b s) : w.cell? ⟨b, 11, none⟩ = some (.int .u16 s.mss) := cell_of_block h 11
theorem EndAt.c12 {w : World} {b : Nat} {s : ES} (h : EndAt w b s) : w.cell? ⟨b, 12, none⟩ = some (.int .i64 s.scl) := cell_of_block h 12
theorem EndAt.c13 {w : World} {b : Nat} {s : ES} (h : EndAt w b s) : w.cell? ⟨b, 13, none⟩ = some (.bool s.sack) := cell_of_block h 13
theorem EndAt.c14 {w : World} {b : Nat} {s : ES} (h : EndAt w b s) : w.cell? ⟨b, 14, none⟩ = some (.int .u32 s.win) := cell_of_block h 14
theorem EndAt.c15 {w : World} {b : Nat} {s : ES} (h : EndAt w b s) : w.cell? ⟨b, 15, none⟩ = some (.int .i64 s.st) := cell_of_block h 15
theorem EndAt.c16 {w : World} {b : Nat} {s : ES} (h : EndAt w b s) : w.cell? ⟨b, 16, none⟩ = some (s.inp) := cell_of_block h 16
theorem EndAt.c17 {w : World} {b : Nat} {s : ES} (h : EndAt w b s) : w.cell? ⟨b, 17, none⟩ = some (s.tak) := cell_of_block h 17
theorem EndAt.c18 {w : World} {b : Nat} {s : ES} (h : EndAt w b s) : w.cell? ⟨b, 18, none⟩ = some (.bool s.ended) := cell_of_block h 18
theorem EndAt.c19 {w : World} {b : Nat} {s : ES} (h : EndAt w b s) : w.cell? ⟨b, 19, none⟩ = some (s.out) := cell_of_block h 19
theorem EndAt.c20 {w : World} {b : Nat} {s : ES} (h : EndAt w b s) : w.cell? ⟨b, 20, none⟩ = some (s.wri) := cell_of_block h 20
theorem EndAt.c21 {w : World} {b : Nat} {s : ES} (h : EndAt w b s) : w.cell? ⟨b, 21, none⟩ = some (.int .u64 s.alarm) := cell_of_block h 21
theorem EndAt.c22 {w : World} {b : Nat} {s : ES} (h : EndAt w b s) : w.cell? ⟨b, 22, none⟩ = some (.int .u64 s.wait) := cell_of_block h 22
theorem EndAt.c23 {w : World} {b : Nat} {s : ES} (h : EndAt w b s) : w.cell? ⟨b, 23, none⟩ = some (.int .i64 s.cnt) := cell_of_block h 23
theorem EndAt.s0 {w : World} {b : Nat} {s : ES} (h : EndAt w b s) (x : Int) : EndAt (w.setCell ⟨b, 0, none⟩ (.int .u16 x)) b { s with loc := x } := by unfold EndAt at h ⊢; rw [heap_setCell_self h]; rfl
theorem EndAt.s1 {w : World} {b : Nat} {s : ES} (h : EndAt w b s) (x : Int) : EndAt (w.setCell ⟨b, 1, none⟩ (.int .u16 x)) b { s with rem := x } := by unfold EndAt at h ⊢; rw [heap_setCell_self h]; rfl
theorem EndAt.s2 {w : World} {b : Nat} {s : ES} (h : EndAt w b s) (x : Int) : EndAt (w.setCell ⟨b, 2, none⟩ (.int .u32 x)) b { s with iss := x } := by unfold EndAt at h ⊢; rw [heap_setCell_self h]; rfl
theorem EndAt.s3 {w : World} {b : Nat} {s : ES} (h : EndAt w b s) (x : Int) : EndAt (w.setCell ⟨b, 3, none⟩ (.int .u16 x)) b { s with smss := x } := by unfold EndAt at h ⊢; rw [heap_setCell_self h]; rfl
theorem EndAt.s4 {w : World} {b : Nat} {s : ES} (h : EndAt w b s) (x : Int) : EndAt (w.setCell ⟨b, 4, none⟩ (.int .i64 x)) b { s with sscl := x } := by unfold EndAt at h ⊢; rw [heap_setCell_self h]; rfl
theorem EndAt.s5 {w : World} {b : Nat} {s : ES} (h : EndAt w b s) (x : Bool) : EndAt (w.setCell ⟨b, 5, none⟩ (.bool x)) b { s with ssack := x } := by unfold EndAt at h ⊢; rw [heap_setCell_self h]; rfl
theorem EndAt.s6 {w : World} {b : Nat} {s : ES} (h : EndAt w b s) (x : Int) : EndAt (w.setCell ⟨b, 6, none⟩ (.int .i64 x)) b { s with room := x } := by unfold EndAt at h ⊢; rw [heap_setCell_self h]; rfl
theorem EndAt.s7 {w : World} {b : Nat} {s : ES} (h : EndAt w b s) (x : Int) : EndAt (w.setCell ⟨b, 7, none⟩ (.int .u64 x)) b { s with rto := x } := by unfold EndAt at h ⊢; rw [heap_setCell_self h]; rfl
theorem EndAt.s8 {w : World} {b : Nat} {s : ES} (h : EndAt w b s) (x : Int) : EndAt (w.setCell ⟨b, 8, none⟩ (.int .i64 x)) b { s with tries := x } := by unfold EndAt at h ⊢; rw [heap_setCell_self h]; rfl
theorem EndAt.s9 {w : World} {b : Nat} {s : ES} (h : EndAt w b s) (x : Int) : EndAt (w.setCell ⟨b, 9, none⟩ (.int .u32 x)) b { s with fiss := x } := by unfold EndAt at h ⊢; rw [heap_setCell_self h]; rfl
theorem EndAt.s10 {w : World} {b : Nat} {s : ES} (h : EndAt w b s) (x : Int) : EndAt (w.setCell ⟨b, 10, none⟩ (.int .u32 x)) b { s with irs := x } := by unfold EndAt at h ⊢; rw [heap_setCell_self h]; rfl
theorem EndAt.s11 {w : World} {b : Nat} {s : ES} (h : EndAt w b s) (x : Int) : EndAt (w.setCell ⟨b, 11, none⟩ (.int .u16 x)) b { s with mss := x } := by unfold EndAt at h ⊢; rw [heap_setCell_self h]; rfl
theorem EndAt.s12 {w : World} {b : Nat} {s : ES} (h : EndAt w b s) (x : Int) : EndAt (w.setCell ⟨b, 12, none⟩ (.int .i64 x)) b { s with scl := x } := by unfold EndAt at h ⊢; rw [heap_setCell_self h]; rfl
theorem EndAt.s13 {w : World} {b : Nat} {s : ES} (h : EndAt w b s) (x : Bool) : EndAt (w.setCell ⟨b, 13, none⟩ (.bool x)) b { s with sack := x } := by unfold EndAt at h ⊢; rw [heap_setCell_self h]; rfl
theorem EndAt.s14 {w : World} {b : Nat} {s : ES} (h : EndAt w b s) (x : Int) : EndAt (w.setCell ⟨b, 14, none⟩ (.int .u32 x)) b { s with win := x } := by unfold EndAt at h ⊢; rw [heap_setCell_self h]; rfl
theorem EndAt.s15 {w : World} {b : Nat} {s : ES} (h : EndAt w b s) (x : Int) : EndAt (w.setCell ⟨b, 15, none⟩ (.int .i64 x)) b { s with st := x } := by unfold EndAt at h ⊢; rw [heap_setCell_self h]; rfl
theorem EndAt.s16 {w : World} {b : Nat} {s : ES} (h : EndAt w b s) (x : Value) : EndAt (w.setCell ⟨b, 16, none⟩ (x)) b { s with inp := x } := by unfold EndAt at h ⊢; rw [heap_setCell_self h]; rfl
theorem EndAt.s17 {w : World} {b : Nat} {s : ES} (h : EndAt w b s) (x : Value) : EndAt (w.setCell ⟨b, 17, none⟩ (x)) b { s with tak := x } := by unfold EndAt at h ⊢; rw [heap_setCell_self h]; rfl
theorem EndAt.s18 {w : World} {b : Nat} {s : ES} (h : EndAt w b s) (x : Bool) : EndAt (w.setCell ⟨b, 18, none⟩ (.bool x)) b { s with ended := x } := by unfold EndAt at h ⊢; rw [heap_setCell_self h]; rfl
theorem EndAt.s19 {w : World} {b : Nat} {s : ES} (h : EndAt w b s) (x : Value) : EndAt (w.setCell ⟨b, 19, none⟩ (x)) b { s with out := x } := by unfold EndAt at h ⊢; rw [heap_setCell_self h]; rfl
theorem EndAt.s20 {w : World} {b : Nat} {s : ES} (h : EndAt w b s) (x : Value) : EndAt (w.setCell ⟨b, 20, none⟩ (x)) b { s with wri := x } := by unfold EndAt at h ⊢; rw [heap_setCell_self h]; rfl
theorem EndAt.s21 {w : World} {b : Nat} {s : ES} (h : EndAt w b s) (x : Int) : EndAt (w.setCell ⟨b, 21, none⟩ (.int .u64 x)) b { s with alarm := x } := by unfold EndAt at h ⊢; rw [heap_setCell_self h]; rfl
theorem EndAt.s22 {w : World} {b : Nat} {s : ES} (h : EndAt w b s) (x : Int) : EndAt (w.setCell ⟨b, 22, none⟩ (.int .u64 x)) b { s with wait := x } := by unfold EndAt at h ⊢; rw [heap_setCell_self h]; rfl
theorem EndAt.s23 {w : World} {b : Nat} {s : ES} (h : EndAt w b s) (x : Int) : EndAt (w.setCell ⟨b, 23, none⟩ (.int .i64 x)) b { s with cnt := x } := by unfold EndAt at h ⊢; rw [heap_setCell_self h]; rfl
end Go.Proofs.YtakgohocimlagaaGreat

namespace Go.Proofs.YtakgohocimlagaaGreat
open Go.RowKit
set_option linter.unusedVariables false
set_option linter.unusedSimpArgs false

set_option maxHeartbeats 400000 in
theorem enone_any {w : World} {x : Nat} {s : ES} (h : EndAt w x s) : Calls Tryz.prog 30 #[.pointer (some ⟨x, 0, none⟩)] w fun e w' => e = .returned (.bool (s.st == 0)) ∧ w = w' := by
  have c15 := h.c15
  clear h
  go_enter Tryz.func30, Tryz.ntmps30
  go_wp2
  go_ret
  exact ⟨rfl, rfl⟩
theorem enone_no {w : World} {x : Nat} {s : ES} (h : EndAt w x s) (h1 : 1 ≤ s.st) : Calls Tryz.prog 30 #[.pointer (some ⟨x, 0, none⟩)] w fun e w' => e = .returned (.bool false) ∧ w = w' := by
  have := enone_any h
  rw [show (s.st == 0) = false by simp; omega] at this
  exact this
set_option maxHeartbeats 400000 in
theorem eover_no {w : World} {x : Nat} {s : ES} (h : EndAt w x s) (h1 : s.st ≠ 3) (h2 : s.st ≠ 4) : Calls Tryz.prog 39 #[.pointer (some ⟨x, 0, none⟩)] w fun e w' => e = .returned (.bool false) ∧ w = w' := by
  have c15 := h.c15
  have e1 : (s.st == 3) = false := by simpa using h1
  have e2 : (s.st == 4) = false := by simpa using h2
  clear h h1 h2
  go_enter Tryz.func39, Tryz.ntmps39
  go_wp2
  go_ret
  exact ⟨rfl, rfl⟩
set_option maxHeartbeats 400000 in
theorem eover_3 {w : World} {x : Nat} {s : ES} (h : EndAt w x s) (h1 : s.st = 3) : Calls Tryz.prog 39 #[.pointer (some ⟨x, 0, none⟩)] w fun e w' => e = .returned (.bool true) ∧ w = w' := by
  have c15 := h.c15
  rw [h1] at c15
  clear h h1
  go_enter Tryz.func39, Tryz.ntmps39
  go_wp2
  go_ret
  exact ⟨rfl, rfl⟩
set_option maxHeartbeats 400000 in
theorem estate_any {w : World} {x : Nat} {s : ES} (h : EndAt w x s) (h1 : 1 ≤ s.st) : Calls Tryz.prog 14 #[.pointer (some ⟨x, 0, none⟩)] w fun e w' => e = .returned (.int .i64 s.st) ∧ w = w' := by
  have c15 := h.c15
  have CN := Lib.hid (enone_no h h1)
  clear h
  go_enter Tryz.func14, Tryz.ntmps14
  go_wp2_with fail
  refine CN.out.mono ?_
  rintro e w1 ⟨rfl, rfl⟩
  go_wp2
  go_ret
  exact ⟨rfl, rfl⟩
set_option maxHeartbeats 400000 in
theorem eended_any {w : World} {x : Nat} {s : ES} (h : EndAt w x s) (h1 : 1 ≤ s.st) : Calls Tryz.prog 25 #[.pointer (some ⟨x, 0, none⟩)] w fun e w' => e = .returned (.bool s.ended) ∧ w = w' := by
  have c18 := h.c18
  have CN := Lib.hid (enone_no h h1)
  clear h
  go_enter Tryz.func25, Tryz.ntmps25
  go_wp2_with fail
  refine CN.out.mono ?_
  rintro e w1 ⟨rfl, rfl⟩
  go_wp2
  go_ret
  exact ⟨rfl, rfl⟩
set_option maxHeartbeats 400000 in
theorem ebytes_any {w : World} {x : Nat} {s : ES} (h : EndAt w x s) (h1 : 1 ≤ s.st) (A : Option Addr) (n c : Nat) (l : List UInt8) (ht : s.tak = .slice A n c) (hb : BytesV w (.slice A n c) l) (hl : n ≤ 274877906944) :
    Calls Tryz.prog 15 #[.pointer (some ⟨x, 0, none⟩)] w fun e w' => ∃ v, e = .returned v ∧ BytesV w' v l ∧ Keeps [] w w' := by
  have c17 := h.c17
  rw [ht] at c17
  have CN := Lib.hid (enone_no h h1)
  have HB := Lib.hid (bclone_any w A n c l hb hl)
  clear h hb
  go_enter Tryz.func15, Tryz.ntmps15
  go_wp2_with fail
  refine CN.out.mono ?_
  rintro e w1 ⟨rfl, rfl⟩
  go_wp2_with fail
  refine HB.out.mono ?_
  rintro e w1 ⟨v, rfl, hv, k⟩
  have HV := Lib.hid (And.intro hv k)
  clear hv k
  go_wp2_with fail
  go_ret
  exact ⟨_, rfl, HV.out⟩

/-! ### bare, Ack -/
def ES.bare (s : ES) : Seg := ⟨s.loc, s.rem, 0, 0, 0, 0, 0, [], []⟩
set_option maxRecDepth 100000 in
set_option maxHeartbeats 1000000 in
theorem ebare_any {w : World} {x : Nat} {s : ES} (h : EndAt w x s) :
    Calls Tryz.prog 34 #[.pointer (some ⟨x, 0, none⟩)] w fun e w' => e = .returned (segV s.bare (.slice none 0 0) (.slice none 0 0)) ∧ Keeps [] w w' := by
  have c0 := h.c0
  have c1 := h.c1
  have hlt := h.lt
  have n0 := World.new_ne w _ c0
  have n1 := World.new_ne w _ c1
  clear h
  unfold ES.bare segV
  go_enter Tryz.func34, Tryz.ntmps34
  go_wp2_with fail
  go_region
  go_wp2_with fail
  refine bodyPost_ret (v := .agg #[.int .u16 s.loc, .int .u16 s.rem, .int .u32 0, .int .u32 0, .int .u8 0, .int .u16 0, .int .u16 0, .slice none 0 0, .slice none 0 0]) (by simp [results, Tryz.results34, go_sem]) rfl ⟨rfl, ?_⟩
  repeat (first | exact Keeps.refl _ _ | apply Keeps.alloc' | apply Keeps.drew' | (refine Keeps.setCell' ?_ (by simp) _))

/-- An end's numbers are in their ranges. -/
structure ES.Ok (s : ES) : Prop where
  loc : 0 ≤ s.loc ∧ s.loc ≤ 65535
  rem : 0 ≤ s.rem ∧ s.rem ≤ 65535
  iss : U32 s.iss
  sscl : 0 ≤ s.scl → 0 ≤ s.sscl
  sscl' : s.sscl ≤ 14
  scl : -1 ≤ s.scl ∧ s.scl ≤ 14
  irs : U32 s.irs
/-- The window that is told. -/
def tellW (s : ES) (room : Int) : Int := if 0 ≤ s.scl then min (room / 2 ^ s.sscl.toNat) 65535 else min room 65535
/-- Its ACK, towards a client. -/
def ES.ackC (s : ES) (b : BS) : Seg := ⟨s.loc, s.rem, (s.iss + 1) % 4294967296, b.next, 16, tellW s (b.room - b.taken), 0, [], []⟩

set_option maxRecDepth 100000 in
set_option maxHeartbeats 2000000 in
theorem eackC_any {w : World} {x b mb : Nat} {s : ES} {st : BS} (h : EndAt w x s) (ok : s.Ok) (h1 : 2 ≤ s.st) (hi : s.inp = .pointer (some ⟨b, 0, none⟩)) (hb : BuffAt w b mb st) (okb : st.ok) :
    Calls Tryz.prog 10 #[.pointer (some ⟨x, 0, none⟩)] w fun e w' => e = .returned (segV (s.ackC st) (.slice none 0 0) (.slice none 0 0)) ∧ Keeps [] w w' := by
  have H := Lib.hid h
  have OK := Lib.hid ok
  have HB := Lib.hid hb
  have OB := Lib.hid okb
  have e1 : (s.st == 1) = false := by simp; omega
  have hst : 1 ≤ s.st := by omega
  have hr : 0 ≤ st.room - st.taken ∧ st.room - st.taken ≤ 16384 := by have := okb.t0; have := okb.tr; have := okb.r; omega
  obtain ⟨rm, hrm⟩ : ∃ rm, st.room - st.taken = rm := ⟨_, rfl⟩
  obtain ⟨nx, hnx⟩ : ∃ nx, st.next = nx := ⟨_, rfl⟩
  obtain ⟨tw, htw⟩ : ∃ tw, tellW s rm = tw := ⟨_, rfl⟩
  obtain ⟨i0, i1⟩ := ok.iss
  obtain ⟨ia, hia⟩ : ∃ ia, (s.iss + 1) % 4294967296 = ia := ⟨_, rfl⟩
  have hwi : IntKind.u32.wrap (s.iss + 1) = ia := by rw [← hia]; exact IntKind.wrap_u32 _
  rw [hrm] at hr
  obtain ⟨hr0, hr1⟩ := hr
  unfold ES.ackC
  rw [hrm, hnx, htw, hia]
  have HNX := Lib.hid hnx
  have HRM := Lib.hid hrm
  have HTW := Lib.hid htw
  clear h ok hb okb hnx hrm htw hia
  unfold segV
  go_enter Tryz.func10, Tryz.ntmps10
  go_wp2_with fail
  refine (enone_no (H.out.keep0 (Keeps.alloc _ _ _)) hst).mono ?_
  rintro e w1 ⟨rfl, rfl⟩
  have HA := Lib.hid (H.out.keep0 (Keeps.alloc [] w (.cells #[.int .u16 0, .int .u16 0, .int .u32 0, .int .u32 0, .int .u8 0, .int .u16 0, .int .u16 0, .slice none 0 0, .slice none 0 0] 39)))
  have c15 := HA.out.c15
  have c16 := HA.out.c16
  rw [hi] at c16
  have hlt := H.out.lt
  clear HA
  go_wp2_with fail
  refine (ebare_any (H.out.keep0 (Keeps.alloc _ _ _))).mono ?_
  rintro e w1 ⟨rfl, k1⟩
  unfold ES.bare segV
  have hz := (k1.block w.heap.size (by simp) (by simp)).trans (MapKept.heap_alloc w _).1
  have HZ := Lib.hid hz
  have K1 := Lib.hid ((Keeps.alloc [] w _).trans k1)
  clear k1 hz c15 c16
  have H1 := Lib.hid (H.out.keep0 K1.out)
  have HB1 := Lib.hid (HB.out.keep K1.out (by simp) (by simp))
  have c16 := H1.out.c16
  rw [hi] at c16
  have c2 := H1.out.c2
  have c4 := H1.out.c4
  have c12 := H1.out.c12
  have p16 := fun o => keeps_cell0 (o := o) c16
  have p2 := fun o => keeps_cell0 (o := o) c2
  have p4 := fun o => keeps_cell0 (o := o) c4
  have p12 := fun o => keeps_cell0 (o := o) c12
  have n16 := World.new_ne w1 _ c16
  have n2 := World.new_ne w1 _ c2
  go_wp2_with fail
  refine (broom_any (HB1.out.keep (Keeps.alloc [] _ _) (by simp) (by simp)) OB.out).mono ?_
  rintro e w2 ⟨rfl, nd, rfl⟩
  rw [HRM.out]
  by_cases hsc : 0 ≤ s.scl
  · have hs0 := OK.out.sscl hsc
    have hs1 := OK.out.sscl'
    obtain ⟨q, hq⟩ : ∃ q, rm / 2 ^ s.sscl.toNat = q := ⟨_, rfl⟩
    have hq0 : 0 ≤ q := by rw [← hq]; exact Int.ediv_nonneg hr0 (Int.le_of_lt (Int.pow_pos (by omega)))
    have hq1 : q ≤ 16384 := by rw [← hq]; exact Int.le_trans (Int.ediv_le_self _ hr0) hr1
    have hdec : decide (0 ≤ s.scl) = true := decide_eq_true hsc
    have hmin : min q 65535 = q := by omega
    have hw16 : IntKind.u16.wrap q = q := by rw [IntKind.wrap_u16]; omega
    have HTW2 := Lib.hid (show q = tw by rw [← HTW.out, ← hmin, ← hq]; unfold tellW; rw [if_pos hsc])
    clear HRM HTW
    go_upto_region 9 with fail
    refine wp_gn (fun W0 hW0 => ?_)
    have h2z : W0.heap[w1.heap.size]? = some (.cells #[.int .u16 s.loc, .int .u16 s.rem, .int .u32 0, .int .u32 0, .int .u8 16, .int .u16 0, .int .u16 0, .slice none 0 0, .slice none 0 0] 39 (0, 0)) := by rw [hW0]; exact (MapKept.heap_alloc w1 _).1
    have k2 : Keeps [] w1 W0 := by rw [hW0]; exact ((Keeps.refl _ _).alloc' _).drewN' _
    have HB2 := Lib.hid (HB1.out.keep k2 (by simp) (by simp))
    have H2 := Lib.hid (H1.out.keep0 k2)
    have d2 := H2.out.c2
    have d16 := H2.out.c16
    rw [hi] at d16
    have K2 := Lib.hid k2
    have H2Z := Lib.hid h2z
    have e2 := cell_of_block h2z 2
    have e3 := cell_of_block h2z 3
    have e5 := cell_of_block h2z 5
    have f2 := free_of_block h2z 2
    have f3 := free_of_block h2z 3
    have f5 := free_of_block h2z 5
    simp at e2 e3 e5
    clear k2 hW0 h2z c16 c2 c4 c12 p16 p2 p4 p12
    go_region_held3 (fun w' => w'.cell? ⟨x, 2, none⟩ = some (.int .u32 s.iss) ∧ w'.cell? ⟨x, 16, none⟩ = some (.pointer (some ⟨b, 0, none⟩))) (go_keep) (first | (go_at_call 36; refine (bnext_any (HB2.out.keep (Keeps.drew [] _) (by simp) (by simp)) OB.out).mono ?_; rintro e w3 ⟨rfl, rfl⟩))
    all_goals
      rw [HNX.out]
      go_upto_region 10 with fail
      refine wp_gn (fun W hW => ?_)
      have hx : W.heap[w1.heap.size]? = some (.cells #[.int .u16 s.loc, .int .u16 s.rem, .int .u32 ia, .int .u32 nx, .int .u8 16, .int .u16 q, .int .u16 0, .slice none 0 0, .slice none 0 0] 39 (0, 0)) := by rw [hW]; exact heap_setCell_self (heap_setCell_self (heap_setCell_self H2Z.out 2 _) 3 _) 5 _
      have k3 : Keeps [] w1 W := by rw [hW]; exact (((K2.out.setCell' (Or.inl (by simp)) _).setCell' (Or.inl (by simp)) _).setCell' (Or.inl (by simp)) _).drew'
      have hr := (k3.block w.heap.size ((Array.getElem?_eq_some_iff.1 HZ.out).1) (by simp)).trans HZ.out
      have KW := Lib.hid (K1.out.trans k3)
      clear hW k3 d2 d16 e2 e3 e5 f2 f3 f5 n16 n2
      have hxc0 := cell_of_block hx 0
      have hxc1 := cell_of_block hx 1
      have hxc2 := cell_of_block hx 2
      have hxc3 := cell_of_block hx 3
      have hxc4 := cell_of_block hx 4
      have hxc5 := cell_of_block hx 5
      have hxc6 := cell_of_block hx 6
      have hxc7 := cell_of_block hx 7
      have hxc8 := cell_of_block hx 8
      simp at hxc0 hxc1 hxc2 hxc3 hxc4 hxc5 hxc6 hxc7 hxc8
      have hxf0 := free_of_block hx 0
      have hxf1 := free_of_block hx 1
      have hxf2 := free_of_block hx 2
      have hxf3 := free_of_block hx 3
      have hxf4 := free_of_block hx 4
      have hxf5 := free_of_block hx 5
      have hxf6 := free_of_block hx 6
      have hxf7 := free_of_block hx 7
      have hxf8 := free_of_block hx 8
      have hrc0 := cell_of_block hr 0
      have hrc1 := cell_of_block hr 1
      have hrc2 := cell_of_block hr 2
      have hrc3 := cell_of_block hr 3
      have hrc4 := cell_of_block hr 4
      have hrc5 := cell_of_block hr 5
      have hrc6 := cell_of_block hr 6
      have hrc7 := cell_of_block hr 7
      have hrc8 := cell_of_block hr 8
      simp at hrc0 hrc1 hrc2 hrc3 hrc4 hrc5 hrc6 hrc7 hrc8
      have hrf0 := free_of_block hr 0
      have hrf1 := free_of_block hr 1
      have hrf2 := free_of_block hr 2
      have hrf3 := free_of_block hr 3
      have hrf4 := free_of_block hr 4
      have hrf5 := free_of_block hr 5
      have hrf6 := free_of_block hr 6
      have hrf7 := free_of_block hr 7
      have hrf8 := free_of_block hr 8
      clear hx hr
      go_wp2_with fail
      refine bodyPost_ret (v := .agg #[.int .u16 s.loc, .int .u16 s.rem, .int .u32 ia, .int .u32 nx, .int .u8 16, .int .u16 q, .int .u16 0, .slice none 0 0, .slice none 0 0]) (by simp [results, Tryz.results10, go_sem, hrc0, hrc1, hrc2, hrc3, hrc4, hrc5, hrc6, hrc7, hrc8]) rfl ⟨by rw [HTW2.out], ?_⟩
      exact (((((((((KW.out.setCell' (Or.inl (by simp)) _).setCell' (Or.inl (by simp)) _).setCell' (Or.inl (by simp)) _).setCell' (Or.inl (by simp)) _).setCell' (Or.inl (by simp)) _).setCell' (Or.inl (by simp)) _).setCell' (Or.inl (by simp)) _).setCell' (Or.inl (by simp)) _).setCell' (Or.inl (by simp)) _)
  · have hdec : decide (0 ≤ s.scl) = false := decide_eq_false hsc
    have hmin : min rm 65535 = rm := by omega
    have hw16 : IntKind.u16.wrap rm = rm := by rw [IntKind.wrap_u16]; omega
    have HTW2 := Lib.hid (show rm = tw by rw [← HTW.out]; unfold tellW; rw [if_neg hsc]; exact hmin.symm)
    clear HRM HTW
    go_upto_region 9 with fail
    refine wp_gn (fun W0 hW0 => ?_)
    have h2z : W0.heap[w1.heap.size]? = some (.cells #[.int .u16 s.loc, .int .u16 s.rem, .int .u32 0, .int .u32 0, .int .u8 16, .int .u16 0, .int .u16 0, .slice none 0 0, .slice none 0 0] 39 (0, 0)) := by rw [hW0]; exact (MapKept.heap_alloc w1 _).1
    have k2 : Keeps [] w1 W0 := by rw [hW0]; exact ((Keeps.refl _ _).alloc' _).drewN' _
    have HB2 := Lib.hid (HB1.out.keep k2 (by simp) (by simp))
    have H2 := Lib.hid (H1.out.keep0 k2)
    have d2 := H2.out.c2
    have d16 := H2.out.c16
    rw [hi] at d16
    have K2 := Lib.hid k2
    have H2Z := Lib.hid h2z
    have e2 := cell_of_block h2z 2
    have e3 := cell_of_block h2z 3
    have e5 := cell_of_block h2z 5
    have f2 := free_of_block h2z 2
    have f3 := free_of_block h2z 3
    have f5 := free_of_block h2z 5
    simp at e2 e3 e5
    clear k2 hW0 h2z c16 c2 c4 c12 p16 p2 p4 p12
    go_region_held3 (fun w' => w'.cell? ⟨x, 2, none⟩ = some (.int .u32 s.iss) ∧ w'.cell? ⟨x, 16, none⟩ = some (.pointer (some ⟨b, 0, none⟩))) (go_keep) (first | (go_at_call 36; refine (bnext_any (HB2.out.keep (Keeps.drew [] _) (by simp) (by simp)) OB.out).mono ?_; rintro e w3 ⟨rfl, rfl⟩))
    all_goals
      rw [HNX.out]
      go_upto_region 10 with fail
      refine wp_gn (fun W hW => ?_)
      have hx : W.heap[w1.heap.size]? = some (.cells #[.int .u16 s.loc, .int .u16 s.rem, .int .u32 ia, .int .u32 nx, .int .u8 16, .int .u16 rm, .int .u16 0, .slice none 0 0, .slice none 0 0] 39 (0, 0)) := by rw [hW]; exact heap_setCell_self (heap_setCell_self (heap_setCell_self H2Z.out 2 _) 3 _) 5 _
      have k3 : Keeps [] w1 W := by rw [hW]; exact (((K2.out.setCell' (Or.inl (by simp)) _).setCell' (Or.inl (by simp)) _).setCell' (Or.inl (by simp)) _).drew'
      have hr := (k3.block w.heap.size ((Array.getElem?_eq_some_iff.1 HZ.out).1) (by simp)).trans HZ.out
      have KW := Lib.hid (K1.out.trans k3)
      clear hW k3 d2 d16 e2 e3 e5 f2 f3 f5 n16 n2
      have hxc0 := cell_of_block hx 0
      have hxc1 := cell_of_block hx 1
      have hxc2 := cell_of_block hx 2
      have hxc3 := cell_of_block hx 3
      have hxc4 := cell_of_block hx 4
      have hxc5 := cell_of_block hx 5
      have hxc6 := cell_of_block hx 6
      have hxc7 := cell_of_block hx 7
      have hxc8 := cell_of_block hx 8
      simp at hxc0 hxc1 hxc2 hxc3 hxc4 hxc5 hxc6 hxc7 hxc8
      have hxf0 := free_of_block hx 0
      have hxf1 := free_of_block hx 1
      have hxf2 := free_of_block hx 2
      have hxf3 := free_of_block hx 3
      have hxf4 := free_of_block hx 4
      have hxf5 := free_of_block hx 5
      have hxf6 := free_of_block hx 6
      have hxf7 := free_of_block hx 7
      have hxf8 := free_of_block hx 8
      have hrc0 := cell_of_block hr 0
      have hrc1 := cell_of_block hr 1
      have hrc2 := cell_of_block hr 2
      have hrc3 := cell_of_block hr 3
      have hrc4 := cell_of_block hr 4
      have hrc5 := cell_of_block hr 5
      have hrc6 := cell_of_block hr 6
      have hrc7 := cell_of_block hr 7
      have hrc8 := cell_of_block hr 8
      simp at hrc0 hrc1 hrc2 hrc3 hrc4 hrc5 hrc6 hrc7 hrc8
      have hrf0 := free_of_block hr 0
      have hrf1 := free_of_block hr 1
      have hrf2 := free_of_block hr 2
      have hrf3 := free_of_block hr 3
      have hrf4 := free_of_block hr 4
      have hrf5 := free_of_block hr 5
      have hrf6 := free_of_block hr 6
      have hrf7 := free_of_block hr 7
      have hrf8 := free_of_block hr 8
      clear hx hr
      go_wp2_with fail
      refine bodyPost_ret (v := .agg #[.int .u16 s.loc, .int .u16 s.rem, .int .u32 ia, .int .u32 nx, .int .u8 16, .int .u16 rm, .int .u16 0, .slice none 0 0, .slice none 0 0]) (by simp [results, Tryz.results10, go_sem, hrc0, hrc1, hrc2, hrc3, hrc4, hrc5, hrc6, hrc7, hrc8]) rfl ⟨by rw [HTW2.out], ?_⟩
      exact (((((((((KW.out.setCell' (Or.inl (by simp)) _).setCell' (Or.inl (by simp)) _).setCell' (Or.inl (by simp)) _).setCell' (Or.inl (by simp)) _).setCell' (Or.inl (by simp)) _).setCell' (Or.inl (by simp)) _).setCell' (Or.inl (by simp)) _).setCell' (Or.inl (by simp)) _).setCell' (Or.inl (by simp)) _)
end Go.Proofs.YtakgohocimlagaaGreat

namespace Go.Proofs.YtakgohocimlagaaGreat
open Go.RowKit
set_option linter.unusedVariables false
set_option linter.unusedSimpArgs false

def segC (s : Seg) (ov dv : Value) : List Value := [.int .u16 s.sp, .int .u16 s.dp, .int .u32 s.sq, .int .u32 s.ak, .int .u8 s.fl, .int .u16 s.wn, .int .u16 s.ug, ov, dv]
/-- v is a row of its own with the segment g alone, which has neither options nor data. -/
def OneAck (n : Nat) (w : World) (v : Value) (g : Seg) : Prop := ∃ r, v = .slice (some ⟨r, 0, none⟩) 1 1 ∧ n ≤ r ∧ w.heap[r]? = some (.cells (segC g (.slice none 0 0) (.slice none 0 0)).toArray 39 (0, 0))
theorem OneAck.mono {n m : Nat} {w w' : World} {v : Value} {g : Seg} (h : OneAck n w v g) (k : Keeps [] w w') (hm : m ≤ n) : OneAck m w' v g := by
  obtain ⟨r, e, h1, h2⟩ := h
  exact ⟨r, e, Nat.le_trans hm h1, (k.block r (lt_of_block h2) (by simp)).trans h2⟩
/-- nil, or one segment -/
def Told (n : Nat) (w : World) (v : Value) (is : Bool) (g : Seg) : Prop := (is = false ∧ v = .slice none 0 0) ∨ (is = true ∧ OneAck n w v g)
theorem Told.mono {n m : Nat} {w w' : World} {v : Value} {is : Bool} {g : Seg} (h : Told n w v is g) (k : Keeps [] w w') (hm : m ≤ n) : Told m w' v is g := by
  rcases h with h | ⟨h1, h2⟩
  · exact .inl h
  · exact .inr ⟨h1, h2.mono k hm⟩

set_option maxRecDepth 100000 in
set_option maxHeartbeats 1000000 in
theorem eacksC_any {w : World} {x b mb : Nat} {s : ES} {st : BS} (h : EndAt w x s) (ok : s.Ok) (h1 : 2 ≤ s.st) (hi : s.inp = .pointer (some ⟨b, 0, none⟩)) (hb : BuffAt w b mb st) (okb : st.ok) (is : Bool) :
    Calls Tryz.prog 63 #[.pointer (some ⟨x, 0, none⟩), .bool is] w fun e w' => ∃ v, e = .returned v ∧ Told w.heap.size w' v is (s.ackC st) ∧ Keeps [] w w' := by
  have HA := Lib.hid (eackC_any h ok h1 hi hb okb)
  clear h ok h1 hi hb okb
  cases is
  · go_enter Tryz.func63, Tryz.ntmps63
    go_wp2
    go_ret
    exact ⟨_, rfl, .inl ⟨rfl, rfl⟩, Keeps.refl _ _⟩
  · go_enter Tryz.func63, Tryz.ntmps63
    go_wp2_with fail
    refine HA.out.mono ?_
    rintro e w1 ⟨rfl, k1⟩
    have K1 := Lib.hid k1
    have hz := k1.size
    clear k1
    unfold ES.ackC segV
    go_wp2_with fail
    go_ret
    exact ⟨_, rfl, .inr ⟨rfl, _, rfl, hz, (MapKept.heap_alloc w1 _).1⟩, K1.out.alloc' _⟩

/-- what a window field tells, by the scale -/
def winI (wn scl : Int) : Int := (wn * 2 ^ (max scl 0).toNat) % 4294967296
set_option maxRecDepth 100000 in
set_option maxHeartbeats 1000000 in
theorem ewindow_any {w : World} {x : Nat} {s : ES} (h : EndAt w x s) (hs : -1 ≤ s.scl ∧ s.scl ≤ 14) (g : Seg) (ov dv : Value) (hw : 0 ≤ g.wn ∧ g.wn ≤ 65535) :
    Calls Tryz.prog 67 #[.pointer (some ⟨x, 0, none⟩), segV g ov dv] w fun e w' => e = .returned (.int .u32 (winI g.wn s.scl)) ∧ Keeps [] w w' := by
  have c12 := h.c12
  have p12 := fun o => keeps_cell0 (o := o) c12
  obtain ⟨s0, s1⟩ := hs
  obtain ⟨w0, w1⟩ := hw
  clear h
  unfold segV
  rcases Int.lt_or_le s.scl 0 with hs | hs
  · have hm : max s.scl 0 = 0 := by omega
    have F := Lib.hid (show winI g.wn s.scl = g.wn by unfold winI; rw [hm]; simp <;> omega)
    go_enter Tryz.func67, Tryz.ntmps67
    go_wp2_with fail
    go_quiet (fail)
    go_wp2_with fail
    go_ret
    exact ⟨ret_i F.out.symm, ((Keeps.refl _ _).alloc' _).drewN' _⟩
  · have hm : max s.scl 0 = s.scl := by omega
    have F := Lib.hid (show winI g.wn s.scl = g.wn * 2 ^ s.scl.toNat % 4294967296 by unfold winI; rw [hm])
    go_enter Tryz.func67, Tryz.ntmps67
    go_wp2_with fail
    go_quiet (fail)
    go_wp2_with fail
    go_ret
    exact ⟨ret_i F.out.symm, ((Keeps.refl _ _).alloc' _).drewN' _⟩

/-! ### client -/
/-- An end towards a client, as it lies in memory: the bytes tl were taken; all of it lies at or behind B. -/
structure Cli (w : World) (B x b mb : Nat) (s : ES) (st : BS) (tl : List UInt8) : Prop where
  e : EndAt w x s
  ok : s.Ok
  st2 : 2 ≤ s.st
  inp : s.inp = .pointer (some ⟨b, 0, none⟩)
  out : s.out = .pointer none
  wri : s.wri = .slice none 0 0
  bf : BuffAt w b mb st
  okb : st.ok
  own : w.ownsRow B 5 1 s.tak tl.length (tl.map u8V)
  sep : ∀ j, s.tak.ownBlock = some j → j ≠ x ∧ j ≠ b ∧ j ≠ mb
  xb : x ≠ b
  xm : x ≠ mb
  zx : B ≤ x
  zb : B ≤ b
  zm : B ≤ mb
  len : tl.length = st.taken
def footC (x b mb : Nat) (s : ES) : List Nat := x :: b :: mb :: s.tak.ownBlock.toList
theorem Cli.keep {w w' : World} {B x b mb : Nat} {s : ES} {st : BS} {tl : List UInt8} {S : List Nat} (h : Cli w B x b mb s st tl) (k : Keeps S w w') (hS : ∀ j ∈ footC x b mb s, j ∉ S) : Cli w' B x b mb s st tl :=
  ⟨h.e.keep k (hS x (by simp [footC])), h.ok, h.st2, h.inp, h.out, h.wri, h.bf.keep k (hS b (by simp [footC])) (hS mb (by simp [footC])), h.okb, by
    refine ⟨h.own.1, ?_⟩
    rcases h.own.2 with h0 | ⟨g, cap, cur, e, hb, hg, hr⟩
    · exact .inl h0
    · exact .inr ⟨g, cap, cur, e, hb, (k.block g (lt_of_block hg) (hS g (by simp [footC, e, Value.ownBlock]))).trans hg, hr⟩, h.sep, h.xb, h.xm, h.zx, h.zb, h.zm, h.len⟩
theorem Cli.keep0 {w w' : World} {B x b mb : Nat} {s : ES} {st : BS} {tl : List UInt8} (h : Cli w B x b mb s st tl) (k : Keeps [] w w') : Cli w' B x b mb s st tl := h.keep k (by simp)

theorem lenI_bd {g : Seg} (ok : g.Ok) : 0 ≤ lenI g ∧ lenI g ≤ 4294967295 := by
  have := ok.len
  unfold lenI
  have h1 : 0 ≤ bI (has g.fl 2) ∧ bI (has g.fl 2) ≤ 1 := by cases has g.fl 2 <;> simp [bI]
  have h2 : 0 ≤ bI (has g.fl 1) ∧ bI (has g.fl 1) ≤ 1 := by cases has g.fl 1 <;> simp [bI]
  omega
/-- what a client's segment is taken as: 0 nothing, 1 an answer alone, 2 a reset, 3 it is taken -/
def cliK (s : ES) (st : BS) (g : Seg) : Nat :=
  if has g.fl 2 then 1 else
  if has g.fl 4 then (if g.sq = st.next then 2 else if withinI g.sq st.next (st.room - st.taken) then 1 else 0) else
  if has g.fl 16 = false then 0 else
  if g.ak ≠ (s.iss + 1) % 4294967296 ∨ acceptI g.sq (lenI g) st.next (st.room - st.taken) = false then 1 else 3

end Go.Proofs.YtakgohocimlagaaGreat

