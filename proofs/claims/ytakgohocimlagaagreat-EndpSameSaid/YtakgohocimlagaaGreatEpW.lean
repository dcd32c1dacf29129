/-
  An end's plain state (package endp), as it lies in memory; what a store does to it. No condition.
-/
import Derived.Test.YtakgohocimlagaaGreatSegs
namespace Go.Proofs.YtakgohocimlagaaGreat
open Go.RowKit
set_option linter.unusedVariables false
set_option linter.unusedSimpArgs false

/-- An end's plain state: its setup, its facts, where it stands, its buffers. -/
structure ES where
  loc : Int
  rem : Int
  iss : Int
  smss : Int
  sscl : Int
  ssack : Bool
  room : Int
  rto : Int
  tries : Int
  fiss : Int
  irs : Int
  mss : Int
  scl : Int
  sack : Bool
  win : Int
  st : Int
  inp : Value
  tak : Value
  ended : Bool
  out : Value
  wri : Value
  alarm : Int
  wait : Int
  cnt : Int
def ES.cells (s : ES) : Array Value := #[.int .u16 s.loc, .int .u16 s.rem, .int .u32 s.iss, .int .u16 s.smss, .int .i64 s.sscl, .bool s.ssack, .int .i64 s.room, .int .u64 s.rto, .int .i64 s.tries, .int .u32 s.fiss, .int .u32 s.irs, .int .u16 s.mss, .int .i64 s.scl, .bool s.sack, .int .u32 s.win, .int .i64 s.st, s.inp, s.tak, .bool s.ended, s.out, s.wri, .int .u64 s.alarm, .int .u64 s.wait, .int .i64 s.cnt]
/-- Block x of w is the end s. -/
def EndAt (w : World) (x : Nat) (s : ES) : Prop := w.heap[x]? = some (.cells s.cells 66 (0, 0))
theorem EndAt.lt {w : World} {b : Nat} {s : ES} (h : EndAt w b s) : b < w.heap.size := (Array.getElem?_eq_some_iff.1 h).1
theorem EndAt.fz {w : World} {b : Nat} {s : ES} (h : EndAt w b s) (k : Nat) : w.frozen? ⟨b, k, none⟩ = false := free_of_block h k
theorem EndAt.keep {w w' : World} {b : Nat} {s : ES} {S : List Nat} (h : EndAt w b s) (k : Keeps S w w') (h1 : b ∉ S) : EndAt w' b s := (k.block b h.lt h1).trans h
theorem EndAt.keep0 {w w' : World} {b : Nat} {s : ES} (h : EndAt w b s) (k : Keeps [] w w') : EndAt w' b s := h.keep k (by simp)
theorem EndAt.c0 {w : World} {b : Nat} {s : ES} (h : EndAt w b s) : w.cell? ⟨b, 0, none⟩ = some (.int .u16 s.loc) := cell_of_block h 0
theorem EndAt.c1 {w : World} {b : Nat} {s : ES} (h : EndAt w b s) : w.cell? ⟨b, 1, none⟩ = some (.int .u16 s.rem) := cell_of_block h 1
theorem EndAt.c2 {w : World} {b : Nat} {s : ES} (h : EndAt w b s) : w.cell? ⟨b, 2, none⟩ = some (.int .u32 s.iss) := cell_of_block h 2
theorem EndAt.c3 {w : World} {b : Nat} {s : ES} (h : EndAt w b s) : w.cell? ⟨b, 3, none⟩ = some (.int .u16 s.smss) := cell_of_block h 3
theorem EndAt.c4 {w : World} {b : Nat} {s : ES} (h : EndAt w b s) : w.cell? ⟨b, 4, none⟩ = some (.int .i64 s.sscl) := cell_of_block h 4
theorem EndAt.c5 {w : World} {b : Nat} {s : ES} (h : EndAt w b s) : w.cell? ⟨b, 5, none⟩ = some (.bool s.ssack) := cell_of_block h 5
theorem EndAt.c6 {w : World} {b : Nat} {s : ES} (h : EndAt w b s) : w.cell? ⟨b, 6, none⟩ = some (.int .i64 s.room) := cell_of_block h 6
theorem EndAt.c7 {w : World} {b : Nat} {s : ES} (h : EndAt w b s) : w.cell? ⟨b, 7, none⟩ = some (.int .u64 s.rto) := cell_of_block h 7
theorem EndAt.c8 {w : World} {b : Nat} {s : ES} (h : EndAt w b s) : w.cell? ⟨b, 8, none⟩ = some (.int .i64 s.tries) := cell_of_block h 8
theorem EndAt.c9 {w : World} {b : Nat} {s : ES} (h : EndAt w b s) : w.cell? ⟨b, 9, none⟩ = some (.int .u32 s.fiss) := cell_of_block h 9
theorem EndAt.c10 {w : World} {b : Nat} {s : ES} (h : EndAt w b s) : w.cell? ⟨b, 10, none⟩ = some (.int .u32 s.irs) := cell_of_block h 10
theorem EndAt.c11 {w : World} {b : Nat} {s : ES} (h : EndAt w b s) : w.cell? ⟨b, 11, none⟩ = some (.int .u16 s.mss) := cell_of_block h 11
theorem EndAt.c12 {w : World} {b : Nat} {s : ES} (h : EndAt w b s) : w.cell? ⟨b, 12, none⟩ = some (.int .i64 s.scl) := cell_of_block h 12
theorem EndAt.c13 {w : World} {b : Nat} {s : ES} (h : EndAt w b s) : w.cell? ⟨b, 13, none⟩ = some (.bool s.sack) := cell_of_block h 13
theorem EndAt.c14 {w : World} {b : Nat} {s : ES} (h : EndAt w b s) : w.cell? ⟨b, 14, none⟩ = some (.int .u32 s.win) := cell_of_block h 14
theorem EndAt.c15 {w : World} {b : Nat} {s : ES} (h : EndAt w b s) : w.cell? ⟨b, 15, none⟩ = some (.int .i64 s.st) := cell_of_block h 15
theorem EndAt.c16 {w : World} {b : Nat} {s : ES} (h : EndAt w b s) : w.cell? ⟨b, 16, none⟩ = some (s.inp) := cell_of_block h 16
theorem EndAt.c17 {w : World} {b : Nat} {s : ES} (h : EndAt w b s) : w.cell? ⟨b, 17, none⟩ = some (s.tak) := cell_of_block h 17
theorem EndAt.c18 {w : World} {b : Nat} {s : ES} (h : EndAt w b s) : w.cell? ⟨b, 18, none⟩ = some (.bool s.ended) := cell_of_block h 18
theorem EndAt.c19 {w : World} {b : Nat} {s : ES} (h : EndAt w b s) : w.cell? ⟨b, 19, none⟩ = some (s.out) := cell_of_block h 19
theorem EndAt.c20 {w : World} {b : Nat} {s : ES} (h : EndAt w b s) : w.cell? ⟨b, 20, none⟩ = some (s.wri) := cell_of_block h 20
theorem EndAt.c21 {w : World} {b : Nat} {s : ES} (h : EndAt w b s) : w.cell? ⟨b, 21, none⟩ = some (.int .u64 s.alarm) := cell_of_block h 21
theorem EndAt.c22 {w : World} {b : Nat} {s : ES} (h : EndAt w b s) : w.cell? ⟨b, 22, none⟩ = some (.int .u64 s.wait) := cell_of_block h 22
theorem EndAt.c23 {w : World} {b : Nat} {s : ES} (h : EndAt w b s) : w.cell? ⟨b, 23, none⟩ = some (.int .i64 s.cnt) := cell_of_block h 23
theorem EndAt.s0 {w : World} {b : Nat} {s : ES} (h : EndAt w b s) (x : Int) : EndAt (w.setCell ⟨b, 0, none⟩ (.int .u16 x)) b { s with loc := x } := by unfold EndAt at h ⊢; rw [heap_setCell_self h]; rfl
theorem EndAt.s1 {w : World} {b : Nat} {s : ES} (h : EndAt w b s) (x : Int) : EndAt (w.setCell ⟨b, 1, none⟩ (.int .u16 x)) b { s with rem := x } := by unfold EndAt at h ⊢; rw [heap_setCell_self h]; rfl
theorem EndAt.s2 {w : World} {b : Nat} {s : ES} (h : EndAt w b s) (x : Int) : EndAt (w.setCell ⟨b, 2, none⟩ (.int .u32 x)) b { s with iss := x } := by unfold EndAt at h ⊢; rw [heap_setCell_self h]; rfl
theorem EndAt.s3 {w : World} {b : Nat} {s : ES} (h : EndAt w b s) (x : Int) : EndAt (w.setCell ⟨b, 3, none⟩ (.int .u16 x)) b { s with smss := x } := by unfold EndAt at h ⊢; rw [heap_setCell_self h]; rfl
theorem EndAt.s4 {w : World} {b : Nat} {s : ES} (h : EndAt w b s) (x : Int) : EndAt (w.setCell ⟨b, 4, none⟩ (.int .i64 x)) b { s with sscl := x } := by unfold EndAt at h ⊢; rw [heap_setCell_self h]; rfl
theorem EndAt.s5 {w : World} {b : Nat} {s : ES} (h : EndAt w b s) (x : Bool) : EndAt (w.setCell ⟨b, 5, none⟩ (.bool x)) b { s with ssack := x } := by unfold EndAt at h ⊢; rw [heap_setCell_self h]; rfl
theorem EndAt.s6 {w : World} {b : Nat} {s : ES} (h : EndAt w b s) (x : Int) : EndAt (w.setCell ⟨b, 6, none⟩ (.int .i64 x)) b { s with room := x } := by unfold EndAt at h ⊢; rw [heap_setCell_self h]; rfl
theorem EndAt.s7 {w : World} {b : Nat} {s : ES} (h : EndAt w b s) (x : Int) : EndAt (w.setCell ⟨b, 7, none⟩ (.int .u64 x)) b { s with rto := x } := by unfold EndAt at h ⊢; rw [heap_setCell_self h]; rfl
theorem EndAt.s8 {w : World} {b : Nat} {s : ES} (h : EndAt w b s) (x : Int) : EndAt (w.setCell ⟨b, 8, none⟩ (.int .i64 x)) b { s with tries := x } := by unfold EndAt at h ⊢; rw [heap_setCell_self h]; rfl
theorem EndAt.s9 {w : World} {b : Nat} {s : ES} (h : EndAt w b s) (x : Int) : EndAt (w.setCell ⟨b, 9, none⟩ (.int .u32 x)) b { s with fiss := x } := by unfold EndAt at h ⊢; rw [heap_setCell_self h]; rfl
theorem EndAt.s10 {w : World} {b : Nat} {s : ES} (h : EndAt w b s) (x : Int) : EndAt (w.setCell ⟨b, 10, none⟩ (.int .u32 x)) b { s with irs := x } := by unfold EndAt at h ⊢; rw [heap_setCell_self h]; rfl
theorem EndAt.s11 {w : World} {b : Nat} {s : ES} (h : EndAt w b s) (x : Int) : EndAt (w.setCell ⟨b, 11, none⟩ (.int .u16 x)) b { s with mss := x } := by unfold EndAt at h ⊢; rw [heap_setCell_self h]; rfl
theorem EndAt.s12 {w : World} {b : Nat} {s : ES} (h : EndAt w b s) (x : Int) : EndAt (w.setCell ⟨b, 12, none⟩ (.int .i64 x)) b { s with scl := x } := by unfold EndAt at h ⊢; rw [heap_setCell_self h]; rfl
theorem EndAt.s13 {w : World} {b : Nat} {s : ES} (h : EndAt w b s) (x : Bool) : EndAt (w.setCell ⟨b, 13, none⟩ (.bool x)) b { s with sack := x } := by unfold EndAt at h ⊢; rw [heap_setCell_self h]; rfl
theorem EndAt.s14 {w : World} {b : Nat} {s : ES} (h : EndAt w b s) (x : Int) : EndAt (w.setCell ⟨b, 14, none⟩ (.int .u32 x)) b { s with win := x } := by unfold EndAt at h ⊢; rw [heap_setCell_self h]; rfl
theorem EndAt.s15 {w : World} {b : Nat} {s : ES} (h : EndAt w b s) (x : Int) : EndAt (w.setCell ⟨b, 15, none⟩ (.int .i64 x)) b { s with st := x } := by unfold EndAt at h ⊢; rw [heap_setCell_self h]; rfl
theorem EndAt.s16 {w : World} {b : Nat} {s : ES} (h : EndAt w b s) (x : Value) : EndAt (w.setCell ⟨b, 16, none⟩ (x)) b { s with inp := x } := by unfold EndAt at h ⊢; rw [heap_setCell_self h]; rfl
theorem EndAt.s17 {w : World} {b : Nat} {s : ES} (h : EndAt w b s) (x : Value) : EndAt (w.setCell ⟨b, 17, none⟩ (x)) b { s with tak := x } := by unfold EndAt at h ⊢; rw [heap_setCell_self h]; rfl
theorem EndAt.s18 {w : World} {b : Nat} {s : ES} (h : EndAt w b s) (x : Bool) : EndAt (w.setCell ⟨b, 18, none⟩ (.bool x)) b { s with ended := x } := by unfold EndAt at h ⊢; rw [heap_setCell_self h]; rfl
theorem EndAt.s19 {w : World} {b : Nat} {s : ES} (h : EndAt w b s) (x : Value) : EndAt (w.setCell ⟨b, 19, none⟩ (x)) b { s with out := x } := by unfold EndAt at h ⊢; rw [heap_setCell_self h]; rfl
theorem EndAt.s20 {w : World} {b : Nat} {s : ES} (h : EndAt w b s) (x : Value) : EndAt (w.setCell ⟨b, 20, none⟩ (x)) b { s with wri := x } := by unfold EndAt at h ⊢; rw [heap_setCell_self h]; rfl
theorem EndAt.s21 {w : World} {b : Nat} {s : ES} (h : EndAt w b s) (x : Int) : EndAt (w.setCell ⟨b, 21, none⟩ (.int .u64 x)) b { s with alarm := x } := by unfold EndAt at h ⊢; rw [heap_setCell_self h]; rfl
theorem EndAt.s22 {w : World} {b : Nat} {s : ES} (h : EndAt w b s) (x : Int) : EndAt (w.setCell ⟨b, 22, none⟩ (.int .u64 x)) b { s with wait := x } := by unfold EndAt at h ⊢; rw [heap_setCell_self h]; rfl
theorem EndAt.s23 {w : World} {b : Nat} {s : ES} (h : EndAt w b s) (x : Int) : EndAt (w.setCell ⟨b, 23, none⟩ (.int .i64 x)) b { s with cnt := x } := by unfold EndAt at h ⊢; rw [heap_setCell_self h]; rfl
end Go.Proofs.YtakgohocimlagaaGreat
