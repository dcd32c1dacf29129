/-
  A host's plain state, as it lies in memory; what a store does to it. No condition.
-/
import Derived.Test.YtgaidloicmkdaaaSegs
namespace Go.Proofs.Ytgaidloicmkdaaa
open Go.RowKit
set_option linter.unusedVariables false
set_option linter.unusedSimpArgs false

/-- A host's plain state. -/
structure HS where
  lp : Int
  iss : Int
  smss : Int
  sscale : Int
  ssack : Bool
  room : Int
  rto : Int
  tries : Int
  st : Int
  rem : Int
  una : Int
  nxt : Int
  outA : Option Addr
  out : List UInt8
  outC : Nat
  closed : Bool
  irs : Int
  next : Int
  innA : Option Addr
  inn : List UInt8
  innC : Nat
  read : Int
  ended : Bool
  mss : Int
  scale : Int
  scaled : Bool
  sack : Bool
  edge : Int
  wl1 : Int
  wl2 : Int
  set : Bool
  alarm : Int
  wait : Int
  count : Int
def HS.cells (s : HS) : Array Value := #[.int .u16 s.lp, .int .u32 s.iss, .int .u16 s.smss, .int .i64 s.sscale, .bool s.ssack, .int .i64 s.room, .int .u64 s.rto, .int .i64 s.tries, .int .i64 s.st, .int .u16 s.rem, .int .u32 s.una, .int .u32 s.nxt, .slice s.outA s.out.length s.outC, .bool s.closed, .int .u32 s.irs, .int .u32 s.next, .slice s.innA s.inn.length s.innC, .int .i64 s.read, .bool s.ended, .int .i64 s.mss, .int .i64 s.scale, .bool s.scaled, .bool s.sack, .int .u32 s.edge, .int .u32 s.wl1, .int .u32 s.wl2, .bool s.set, .int .u64 s.alarm, .int .u64 s.wait, .int .i64 s.count]
/-- Block b of w is the host s. -/
structure HostAt (w : World) (b : Nat) (s : HS) : Prop where
  head : w.heap[b]? = some (.cells s.cells 65 (0, 0))
  out : BytesV w (.slice s.outA s.out.length s.outC) s.out
  inn : BytesV w (.slice s.innA s.inn.length s.innC) s.inn
theorem HostAt.lt {w : World} {b : Nat} {s : HS} (h : HostAt w b s) : b < w.heap.size := (Array.getElem?_eq_some_iff.1 h.head).1
theorem HostAt.fz {w : World} {b : Nat} {s : HS} (h : HostAt w b s) (k : Nat) : w.frozen? ⟨b, k, none⟩ = false := free_of_block h.head k
theorem HostAt.no {w : World} {b : Nat} {s : HS} (h : HostAt w b s) : NoU8 w b := by
  intro i x hx
  rw [cell_of_block h.head i] at hx
  match i, hx with
  | 0, hx => simp [HS.cells] at hx
  | 1, hx => simp [HS.cells] at hx
  | 2, hx => simp [HS.cells] at hx
  | 3, hx => simp [HS.cells] at hx
  | 4, hx => simp [HS.cells] at hx
  | 5, hx => simp [HS.cells] at hx
  | 6, hx => simp [HS.cells] at hx
  | 7, hx => simp [HS.cells] at hx
  | 8, hx => simp [HS.cells] at hx
  | 9, hx => simp [HS.cells] at hx
  | 10, hx => simp [HS.cells] at hx
  | 11, hx => simp [HS.cells] at hx
  | 12, hx => simp [HS.cells] at hx
  | 13, hx => simp [HS.cells] at hx
  | 14, hx => simp [HS.cells] at hx
  | 15, hx => simp [HS.cells] at hx
  | 16, hx => simp [HS.cells] at hx
  | 17, hx => simp [HS.cells] at hx
  | 18, hx => simp [HS.cells] at hx
  | 19, hx => simp [HS.cells] at hx
  | 20, hx => simp [HS.cells] at hx
  | 21, hx => simp [HS.cells] at hx
  | 22, hx => simp [HS.cells] at hx
  | 23, hx => simp [HS.cells] at hx
  | 24, hx => simp [HS.cells] at hx
  | 25, hx => simp [HS.cells] at hx
  | 26, hx => simp [HS.cells] at hx
  | 27, hx => simp [HS.cells] at hx
  | 28, hx => simp [HS.cells] at hx
  | 29, hx => simp [HS.cells] at hx
  | i + 30, hx => simp [HS.cells] at hx
theorem HostAt.c0 {w : World} {b : Nat} {s : HS} (h : HostAt w b s) : w.cell? ⟨b, 0, none⟩ = some (.int .u16 s.lp) := cell_of_block h.head 0
theorem HostAt.c1 {w : World} {b : Nat} {s : HS} (h : HostAt w b s) : w.cell? ⟨b, 1, none⟩ = some (.int .u32 s.iss) := cell_of_block h.head 1
theorem HostAt.c2 {w : World} {b : Nat} {s : HS} (h : HostAt w b s) : w.cell? ⟨b, 2, none⟩ = some (.int .u16 s.smss) := cell_of_block h.head 2
theorem HostAt.c3 {w : World} {b : Nat} {s : HS} (h : HostAt w b s) : w.cell? ⟨b, 3, none⟩ = some (.int .i64 s.sscale) := cell_of_block h.head 3
theorem HostAt.c4 {w : World} {b : Nat} {s : HS} (h : HostAt w b s) : w.cell? ⟨b, 4, none⟩ = some (.bool s.ssack) := cell_of_block h.head 4
theorem HostAt.c5 {w : World} {b : Nat} {s : HS} (h : HostAt w b s) : w.cell? ⟨b, 5, none⟩ = some (.int .i64 s.room) := cell_of_block h.head 5
theorem HostAt.c6 {w : World} {b : Nat} {s : HS} (h : HostAt w b s) : w.cell? ⟨b, 6, none⟩ = some (.int .u64 s.rto) := cell_of_block h.head 6
theorem HostAt.c7 {w : World} {b : Nat} {s : HS} (h : HostAt w b s) : w.cell? ⟨b, 7, none⟩ = some (.int .i64 s.tries) := cell_of_block h.head 7
theorem HostAt.c8 {w : World} {b : Nat} {s : HS} (h : HostAt w b s) : w.cell? ⟨b, 8, none⟩ = some (.int .i64 s.st) := cell_of_block h.head 8
theorem HostAt.c9 {w : World} {b : Nat} {s : HS} (h : HostAt w b s) : w.cell? ⟨b, 9, none⟩ = some (.int .u16 s.rem) := cell_of_block h.head 9
theorem HostAt.c10 {w : World} {b : Nat} {s : HS} (h : HostAt w b s) : w.cell? ⟨b, 10, none⟩ = some (.int .u32 s.una) := cell_of_block h.head 10
theorem HostAt.c11 {w : World} {b : Nat} {s : HS} (h : HostAt w b s) : w.cell? ⟨b, 11, none⟩ = some (.int .u32 s.nxt) := cell_of_block h.head 11
theorem HostAt.c12 {w : World} {b : Nat} {s : HS} (h : HostAt w b s) : w.cell? ⟨b, 12, none⟩ = some (.slice s.outA s.out.length s.outC) := cell_of_block h.head 12
theorem HostAt.c13 {w : World} {b : Nat} {s : HS} (h : HostAt w b s) : w.cell? ⟨b, 13, none⟩ = some (.bool s.closed) := cell_of_block h.head 13
theorem HostAt.c14 {w : World} {b : Nat} {s : HS} (h : HostAt w b s) : w.cell? ⟨b, 14, none⟩ = some (.int .u32 s.irs) := cell_of_block h.head 14
theorem HostAt.c15 {w : World} {b : Nat} {s : HS} (h : HostAt w b s) : w.cell? ⟨b, 15, none⟩ = some (.int .u32 s.next) := cell_of_block h.head 15
theorem HostAt.c16 {w : World} {b : Nat} {s : HS} (h : HostAt w b s) : w.cell? ⟨b, 16, none⟩ = some (.slice s.innA s.inn.length s.innC) := cell_of_block h.head 16
theorem HostAt.c17 {w : World} {b : Nat} {s : HS} (h : HostAt w b s) : w.cell? ⟨b, 17, none⟩ = some (.int .i64 s.read) := cell_of_block h.head 17
theorem HostAt.c18 {w : World} {b : Nat} {s : HS} (h : HostAt w b s) : w.cell? ⟨b, 18, none⟩ = some (.bool s.ended) := cell_of_block h.head 18
theorem HostAt.c19 {w : World} {b : Nat} {s : HS} (h : HostAt w b s) : w.cell? ⟨b, 19, none⟩ = some (.int .i64 s.mss) := cell_of_block h.head 19
theorem HostAt.c20 {w : World} {b : Nat} {s : HS} (h : HostAt w b s) : w.cell? ⟨b, 20, none⟩ = some (.int .i64 s.scale) := cell_of_block h.head 20
theorem HostAt.c21 {w : World} {b : Nat} {s : HS} (h : HostAt w b s) : w.cell? ⟨b, 21, none⟩ = some (.bool s.scaled) := cell_of_block h.head 21
theorem HostAt.c22 {w : World} {b : Nat} {s : HS} (h : HostAt w b s) : w.cell? ⟨b, 22, none⟩ = some (.bool s.sack) := cell_of_block h.head 22
theorem HostAt.c23 {w : World} {b : Nat} {s : HS} (h : HostAt w b s) : w.cell? ⟨b, 23, none⟩ = some (.int .u32 s.edge) := cell_of_block h.head 23
theorem HostAt.c24 {w : World} {b : Nat} {s : HS} (h : HostAt w b s) : w.cell? ⟨b, 24, none⟩ = some (.int .u32 s.wl1) := cell_of_block h.head 24
theorem HostAt.c25 {w : World} {b : Nat} {s : HS} (h : HostAt w b s) : w.cell? ⟨b, 25, none⟩ = some (.int .u32 s.wl2) := cell_of_block h.head 25
theorem HostAt.c26 {w : World} {b : Nat} {s : HS} (h : HostAt w b s) : w.cell? ⟨b, 26, none⟩ = some (.bool s.set) := cell_of_block h.head 26
theorem HostAt.c27 {w : World} {b : Nat} {s : HS} (h : HostAt w b s) : w.cell? ⟨b, 27, none⟩ = some (.int .u64 s.alarm) := cell_of_block h.head 27
theorem HostAt.c28 {w : World} {b : Nat} {s : HS} (h : HostAt w b s) : w.cell? ⟨b, 28, none⟩ = some (.int .u64 s.wait) := cell_of_block h.head 28
theorem HostAt.c29 {w : World} {b : Nat} {s : HS} (h : HostAt w b s) : w.cell? ⟨b, 29, none⟩ = some (.int .i64 s.count) := cell_of_block h.head 29
theorem HostAt.keep0 {w w' : World} {b : Nat} {s : HS} (h : HostAt w b s) (k : Keeps [] w w') : HostAt w' b s :=
  ⟨(k.block b h.lt (by simp)).trans h.head, h.out.keep0 k, h.inn.keep0 k⟩
theorem HostAt.upd {w w' : World} {b : Nat} {s s' : HS} (h : HostAt w b s) (k : Keeps [b] w w') (hh : w'.heap[b]? = some (.cells s'.cells 65 (0, 0)))
    (o1 : s'.outA = s.outA) (o2 : s'.out = s.out) (o3 : s'.outC = s.outC) (i1 : s'.innA = s.innA) (i2 : s'.inn = s.inn) (i3 : s'.innC = s.innC) : HostAt w' b s' :=
  ⟨hh, by rw [o1, o2, o3]; exact h.out.keep k h.no, by rw [i1, i2, i3]; exact h.inn.keep k h.no⟩

theorem HostAt.s0 {w : World} {b : Nat} {s : HS} (h : HostAt w b s) (x : Int) : HostAt (w.setCell ⟨b, 0, none⟩ (.int .u16 x)) b { s with lp := x } :=
  h.upd (Keeps.setCell w ⟨b, 0, none⟩ _) (by rw [heap_setCell_self h.head]; rfl) rfl rfl rfl rfl rfl rfl
theorem HostAt.s1 {w : World} {b : Nat} {s : HS} (h : HostAt w b s) (x : Int) : HostAt (w.setCell ⟨b, 1, none⟩ (.int .u32 x)) b { s with iss := x } :=
  h.upd (Keeps.setCell w ⟨b, 1, none⟩ _) (by rw [heap_setCell_self h.head]; rfl) rfl rfl rfl rfl rfl rfl
theorem HostAt.s2 {w : World} {b : Nat} {s : HS} (h : HostAt w b s) (x : Int) : HostAt (w.setCell ⟨b, 2, none⟩ (.int .u16 x)) b { s with smss := x } :=
  h.upd (Keeps.setCell w ⟨b, 2, none⟩ _) (by rw [heap_setCell_self h.head]; rfl) rfl rfl rfl rfl rfl rfl
theorem HostAt.s3 {w : World} {b : Nat} {s : HS} (h : HostAt w b s) (x : Int) : HostAt (w.setCell ⟨b, 3, none⟩ (.int .i64 x)) b { s with sscale := x } :=
  h.upd (Keeps.setCell w ⟨b, 3, none⟩ _) (by rw [heap_setCell_self h.head]; rfl) rfl rfl rfl rfl rfl rfl
theorem HostAt.s4 {w : World} {b : Nat} {s : HS} (h : HostAt w b s) (x : Bool) : HostAt (w.setCell ⟨b, 4, none⟩ (.bool x)) b { s with ssack := x } :=
  h.upd (Keeps.setCell w ⟨b, 4, none⟩ _) (by rw [heap_setCell_self h.head]; rfl) rfl rfl rfl rfl rfl rfl
theorem HostAt.s5 {w : World} {b : Nat} {s : HS} (h : HostAt w b s) (x : Int) : HostAt (w.setCell ⟨b, 5, none⟩ (.int .i64 x)) b { s with room := x } :=
  h.upd (Keeps.setCell w ⟨b, 5, none⟩ _) (by rw [heap_setCell_self h.head]; rfl) rfl rfl rfl rfl rfl rfl
theorem HostAt.s6 {w : World} {b : Nat} {s : HS} (h : HostAt w b s) (x : Int) : HostAt (w.setCell ⟨b, 6, none⟩ (.int .u64 x)) b { s with rto := x } :=
  h.upd (Keeps.setCell w ⟨b, 6, none⟩ _) (by rw [heap_setCell_self h.head]; rfl) rfl rfl rfl rfl rfl rfl
theorem HostAt.s7 {w : World} {b : Nat} {s : HS} (h : HostAt w b s) (x : Int) : HostAt (w.setCell ⟨b, 7, none⟩ (.int .i64 x)) b { s with tries := x } :=
  h.upd (Keeps.setCell w ⟨b, 7, none⟩ _) (by rw [heap_setCell_self h.head]; rfl) rfl rfl rfl rfl rfl rfl
theorem HostAt.s8 {w : World} {b : Nat} {s : HS} (h : HostAt w b s) (x : Int) : HostAt (w.setCell ⟨b, 8, none⟩ (.int .i64 x)) b { s with st := x } :=
  h.upd (Keeps.setCell w ⟨b, 8, none⟩ _) (by rw [heap_setCell_self h.head]; rfl) rfl rfl rfl rfl rfl rfl
theorem HostAt.s9 {w : World} {b : Nat} {s : HS} (h : HostAt w b s) (x : Int) : HostAt (w.setCell ⟨b, 9, none⟩ (.int .u16 x)) b { s with rem := x } :=
  h.upd (Keeps.setCell w ⟨b, 9, none⟩ _) (by rw [heap_setCell_self h.head]; rfl) rfl rfl rfl rfl rfl rfl
theorem HostAt.s10 {w : World} {b : Nat} {s : HS} (h : HostAt w b s) (x : Int) : HostAt (w.setCell ⟨b, 10, none⟩ (.int .u32 x)) b { s with una := x } :=
  h.upd (Keeps.setCell w ⟨b, 10, none⟩ _) (by rw [heap_setCell_self h.head]; rfl) rfl rfl rfl rfl rfl rfl
theorem HostAt.s11 {w : World} {b : Nat} {s : HS} (h : HostAt w b s) (x : Int) : HostAt (w.setCell ⟨b, 11, none⟩ (.int .u32 x)) b { s with nxt := x } :=
  h.upd (Keeps.setCell w ⟨b, 11, none⟩ _) (by rw [heap_setCell_self h.head]; rfl) rfl rfl rfl rfl rfl rfl
theorem HostAt.s13 {w : World} {b : Nat} {s : HS} (h : HostAt w b s) (x : Bool) : HostAt (w.setCell ⟨b, 13, none⟩ (.bool x)) b { s with closed := x } :=
  h.upd (Keeps.setCell w ⟨b, 13, none⟩ _) (by rw [heap_setCell_self h.head]; rfl) rfl rfl rfl rfl rfl rfl
theorem HostAt.s14 {w : World} {b : Nat} {s : HS} (h : HostAt w b s) (x : Int) : HostAt (w.setCell ⟨b, 14, none⟩ (.int .u32 x)) b { s with irs := x } :=
  h.upd (Keeps.setCell w ⟨b, 14, none⟩ _) (by rw [heap_setCell_self h.head]; rfl) rfl rfl rfl rfl rfl rfl
theorem HostAt.s15 {w : World} {b : Nat} {s : HS} (h : HostAt w b s) (x : Int) : HostAt (w.setCell ⟨b, 15, none⟩ (.int .u32 x)) b { s with next := x } :=
  h.upd (Keeps.setCell w ⟨b, 15, none⟩ _) (by rw [heap_setCell_self h.head]; rfl) rfl rfl rfl rfl rfl rfl
theorem HostAt.s17 {w : World} {b : Nat} {s : HS} (h : HostAt w b s) (x : Int) : HostAt (w.setCell ⟨b, 17, none⟩ (.int .i64 x)) b { s with read := x } :=
  h.upd (Keeps.setCell w ⟨b, 17, none⟩ _) (by rw [heap_setCell_self h.head]; rfl) rfl rfl rfl rfl rfl rfl
theorem HostAt.s18 {w : World} {b : Nat} {s : HS} (h : HostAt w b s) (x : Bool) : HostAt (w.setCell ⟨b, 18, none⟩ (.bool x)) b { s with ended := x } :=
  h.upd (Keeps.setCell w ⟨b, 18, none⟩ _) (by rw [heap_setCell_self h.head]; rfl) rfl rfl rfl rfl rfl rfl
theorem HostAt.s19 {w : World} {b : Nat} {s : HS} (h : HostAt w b s) (x : Int) : HostAt (w.setCell ⟨b, 19, none⟩ (.int .i64 x)) b { s with mss := x } :=
  h.upd (Keeps.setCell w ⟨b, 19, none⟩ _) (by rw [heap_setCell_self h.head]; rfl) rfl rfl rfl rfl rfl rfl
theorem HostAt.s20 {w : World} {b : Nat} {s : HS} (h : HostAt w b s) (x : Int) : HostAt (w.setCell ⟨b, 20, none⟩ (.int .i64 x)) b { s with scale := x } :=
  h.upd (Keeps.setCell w ⟨b, 20, none⟩ _) (by rw [heap_setCell_self h.head]; rfl) rfl rfl rfl rfl rfl rfl
theorem HostAt.s21 {w : World} {b : Nat} {s : HS} (h : HostAt w b s) (x : Bool) : HostAt (w.setCell ⟨b, 21, none⟩ (.bool x)) b { s with scaled := x } :=
  h.upd (Keeps.setCell w ⟨b, 21, none⟩ _) (by rw [heap_setCell_self h.head]; rfl) rfl rfl rfl rfl rfl rfl
theorem HostAt.s22 {w : World} {b : Nat} {s : HS} (h : HostAt w b s) (x : Bool) : HostAt (w.setCell ⟨b, 22, none⟩ (.bool x)) b { s with sack := x } :=
  h.upd (Keeps.setCell w ⟨b, 22, none⟩ _) (by rw [heap_setCell_self h.head]; rfl) rfl rfl rfl rfl rfl rfl
theorem HostAt.s23 {w : World} {b : Nat} {s : HS} (h : HostAt w b s) (x : Int) : HostAt (w.setCell ⟨b, 23, none⟩ (.int .u32 x)) b { s with edge := x } :=
  h.upd (Keeps.setCell w ⟨b, 23, none⟩ _) (by rw [heap_setCell_self h.head]; rfl) rfl rfl rfl rfl rfl rfl
theorem HostAt.s24 {w : World} {b : Nat} {s : HS} (h : HostAt w b s) (x : Int) : HostAt (w.setCell ⟨b, 24, none⟩ (.int .u32 x)) b { s with wl1 := x } :=
  h.upd (Keeps.setCell w ⟨b, 24, none⟩ _) (by rw [heap_setCell_self h.head]; rfl) rfl rfl rfl rfl rfl rfl
theorem HostAt.s25 {w : World} {b : Nat} {s : HS} (h : HostAt w b s) (x : Int) : HostAt (w.setCell ⟨b, 25, none⟩ (.int .u32 x)) b { s with wl2 := x } :=
  h.upd (Keeps.setCell w ⟨b, 25, none⟩ _) (by rw [heap_setCell_self h.head]; rfl) rfl rfl rfl rfl rfl rfl
theorem HostAt.s26 {w : World} {b : Nat} {s : HS} (h : HostAt w b s) (x : Bool) : HostAt (w.setCell ⟨b, 26, none⟩ (.bool x)) b { s with set := x } :=
  h.upd (Keeps.setCell w ⟨b, 26, none⟩ _) (by rw [heap_setCell_self h.head]; rfl) rfl rfl rfl rfl rfl rfl
theorem HostAt.s27 {w : World} {b : Nat} {s : HS} (h : HostAt w b s) (x : Int) : HostAt (w.setCell ⟨b, 27, none⟩ (.int .u64 x)) b { s with alarm := x } :=
  h.upd (Keeps.setCell w ⟨b, 27, none⟩ _) (by rw [heap_setCell_self h.head]; rfl) rfl rfl rfl rfl rfl rfl
theorem HostAt.s28 {w : World} {b : Nat} {s : HS} (h : HostAt w b s) (x : Int) : HostAt (w.setCell ⟨b, 28, none⟩ (.int .u64 x)) b { s with wait := x } :=
  h.upd (Keeps.setCell w ⟨b, 28, none⟩ _) (by rw [heap_setCell_self h.head]; rfl) rfl rfl rfl rfl rfl rfl
theorem HostAt.s29 {w : World} {b : Nat} {s : HS} (h : HostAt w b s) (x : Int) : HostAt (w.setCell ⟨b, 29, none⟩ (.int .i64 x)) b { s with count := x } :=
  h.upd (Keeps.setCell w ⟨b, 29, none⟩ _) (by rw [heap_setCell_self h.head]; rfl) rfl rfl rfl rfl rfl rfl
theorem HostAt.s12 {w : World} {b : Nat} {s : HS} (h : HostAt w b s) (A : Option Addr) (l : List UInt8) (c : Nat) (hb : BytesV w (.slice A l.length c) l) : HostAt (w.setCell ⟨b, 12, none⟩ (.slice A l.length c)) b { s with outA := A, out := l, outC := c } :=
  ⟨by rw [heap_setCell_self h.head]; rfl, hb.keep (Keeps.setCell w ⟨b, 12, none⟩ _) h.no, h.inn.keep (Keeps.setCell w ⟨b, 12, none⟩ _) h.no⟩
theorem HostAt.s16 {w : World} {b : Nat} {s : HS} (h : HostAt w b s) (A : Option Addr) (l : List UInt8) (c : Nat) (hb : BytesV w (.slice A l.length c) l) : HostAt (w.setCell ⟨b, 16, none⟩ (.slice A l.length c)) b { s with innA := A, inn := l, innC := c } :=
  ⟨by rw [heap_setCell_self h.head]; rfl, h.out.keep (Keeps.setCell w ⟨b, 16, none⟩ _) h.no, hb.keep (Keeps.setCell w ⟨b, 16, none⟩ _) h.no⟩
end Go.Proofs.Ytgaidloicmkdaaa
