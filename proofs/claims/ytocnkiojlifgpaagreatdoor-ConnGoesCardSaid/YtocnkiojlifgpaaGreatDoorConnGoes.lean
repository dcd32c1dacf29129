/-
  The law ConnGoes: it returns true at any arguments, and leaves what was there: reckoned by the evaluator at letters, path by path. Condition: the listed variables lie as listed. Printed by program.
-/
import Derived.Test.YtocnkiojlifgpaaGreatDoorCnP
import Derived.Test.YtocnkiojlifgpaaGreatDoorCnO
namespace Go.Proofs.YtocnkiojlifgpaaGreatDoor
open Ev Go.RowKit
set_option linter.unusedVariables false
set_option linter.unusedSimpArgs false

def goI (sn ms sc sq lt by_ ck mm sl nw f1 f28 a1 : Int) (n : Nat) : Int := match n with
  | 0 => sn
  | 1 => ms
  | 2 => sc
  | 3 => sq
  | 4 => lt
  | 5 => by_
  | 6 => ck
  | 7 => mm
  | 8 => sl
  | 9 => nw
  | 10 => f1
  | 11 => f28
  | 12 => a1
  | _ => 0
structure GoH (sn ms sc sq lt by_ ck mm sl nw f1 f28 a1 : Int) : Prop where
  sq0 : 0 ≤ sq
  sq1 : sq ≤ 4294967295
  ck0 : 0 ≤ ck
  ck1 : ck ≤ 4294967295
  h10 : IntKind.u32.wrap (sq + 1) = f1
  h11 : IntKind.u32.wrap (f1 + 27) = f28
  h12 : IntKind.u32.wrap (ck + 1) = a1
  hmm : IntKind.u16.wrap (88 + ms.tmod 1373) = mm
  hsl : IntKind.i64.wrap (IntKind.i64.wrap ((IntKind.u64.wrap sc).tmod 16) - 1) = sl
  hnw : IntKind.u64.wrap (1000 + IntKind.u64.wrap by_) = nw
  mm0 : 88 ≤ mm
  mm1 : mm ≤ 1460
  sl0 : -1 ≤ sl
  sl1 : sl ≤ 14
  nw0 : 1000 ≤ nw
  nw1 : nw ≤ 1255
def goB : List Fact := [.is (.o .add .u32 (.v 3) (.c 1)) (.v 10), .is (.o .add .u32 (.v 10) (.c 0)) (.v 10), .is (.o .sub .u32 (.v 10) (.v 10)) (.c 0), .is (.o .add .u32 (.v 10) (.c 27)) (.v 11), .is (.o .add .u32 (.v 6) (.c 1)) (.v 12), .is (.o .sub .u32 (.v 10) (.c 1)) (.v 3), .is (.o .sub .u32 (.v 12) (.c 1)) (.v 6), .is (.o .add .u16 (.c 88) (.o .rem .u16 (.v 1) (.c 1373))) (.v 7), .is (.o .sub .i64 (.w .i64 (.o .rem .u64 (.w .u64 (.v 2)) (.c 16))) (.c 1)) (.v 8), .is (.o .add .u64 (.c 1000) (.w .u64 (.v 5))) (.v 9), .cmp .geq (.v 7) (.c 88) true, .cmp .leq (.v 7) (.c 1460) true, .cmp .geq (.v 8) (.c (-1)) true, .cmp .leq (.v 8) (.c 14) true, .cmp .geq (.o .sub .u64 (.o .add .u64 (.v 9) (.c 200)) (.c 1)) (.o .add .u64 (.v 9) (.c 200)) false, .cmp .geq (.o .add .u64 (.v 9) (.c 200)) (.o .add .u64 (.v 9) (.c 200)) true, .cmp .geq (.o .sub .u64 (.o .add .u64 (.v 9) (.c 128)) (.c 1)) (.o .add .u64 (.v 9) (.c 128)) false, .cmp .geq (.o .add .u64 (.v 9) (.c 128)) (.o .add .u64 (.v 9) (.c 128)) true]
set_option maxRecDepth 100000 in
theorem goB_ok (sn ms sc sq lt by_ ck mm sl nw f1 f28 a1 : Int) (H : GoH sn ms sc sq lt by_ ck mm sl nw f1 f28 a1) : ∀ f, f ∈ goB → f.holds (goI sn ms sc sq lt by_ ck mm sl nw f1 f28 a1) := by
  intro f hf
  simp only [goB, List.mem_cons, List.not_mem_nil, or_false] at hf
  rcases hf with rfl | rfl | rfl | rfl | rfl | rfl | rfl | rfl | rfl | rfl | rfl | rfl | rfl | rfl | rfl | rfl | rfl | rfl
  · exact H.h10
  · (have q1 := H.sq0; have q2 := H.sq1; have q3 := H.ck0; have q4 := H.ck1; have q7 := H.mm0; have q8 := H.mm1; have q9 := H.sl0; have q10 := H.sl1; have q11 := H.nw0; have q12 := H.nw1; have q13 := H.h10; have q14 := H.h12; clear H; simp only [Fact.holds, Sx.den, cmpI, opI, goI, IntKind.wrap_i64, IntKind.wrap_i32, IntKind.wrap_u64, IntKind.wrap_u32, IntKind.wrap_u16, IntKind.wrap_u8, Option.some.injEq, decide_eq_true_eq, decide_eq_false_iff_not, beq_iff_eq, beq_eq_false_iff_ne, bne_iff_ne, bne_eq_false_iff_eq, ne_eq, gt_iff_lt, ge_iff_le] at *; omega)
  · (have q1 := H.sq0; have q2 := H.sq1; have q3 := H.ck0; have q4 := H.ck1; have q7 := H.mm0; have q8 := H.mm1; have q9 := H.sl0; have q10 := H.sl1; have q11 := H.nw0; have q12 := H.nw1; have q13 := H.h10; have q14 := H.h12; clear H; simp only [Fact.holds, Sx.den, cmpI, opI, goI, IntKind.wrap_i64, IntKind.wrap_i32, IntKind.wrap_u64, IntKind.wrap_u32, IntKind.wrap_u16, IntKind.wrap_u8, Option.some.injEq, decide_eq_true_eq, decide_eq_false_iff_not, beq_iff_eq, beq_eq_false_iff_ne, bne_iff_ne, bne_eq_false_iff_eq, ne_eq, gt_iff_lt, ge_iff_le] at *; omega)
  · exact H.h11
  · exact H.h12
  · (have q1 := H.sq0; have q2 := H.sq1; have q3 := H.ck0; have q4 := H.ck1; have q7 := H.mm0; have q8 := H.mm1; have q9 := H.sl0; have q10 := H.sl1; have q11 := H.nw0; have q12 := H.nw1; have q13 := H.h10; have q14 := H.h12; clear H; simp only [Fact.holds, Sx.den, cmpI, opI, goI, IntKind.wrap_i64, IntKind.wrap_i32, IntKind.wrap_u64, IntKind.wrap_u32, IntKind.wrap_u16, IntKind.wrap_u8, Option.some.injEq, decide_eq_true_eq, decide_eq_false_iff_not, beq_iff_eq, beq_eq_false_iff_ne, bne_iff_ne, bne_eq_false_iff_eq, ne_eq, gt_iff_lt, ge_iff_le] at *; omega)
  · (have q1 := H.sq0; have q2 := H.sq1; have q3 := H.ck0; have q4 := H.ck1; have q7 := H.mm0; have q8 := H.mm1; have q9 := H.sl0; have q10 := H.sl1; have q11 := H.nw0; have q12 := H.nw1; have q13 := H.h10; have q14 := H.h12; clear H; simp only [Fact.holds, Sx.den, cmpI, opI, goI, IntKind.wrap_i64, IntKind.wrap_i32, IntKind.wrap_u64, IntKind.wrap_u32, IntKind.wrap_u16, IntKind.wrap_u8, Option.some.injEq, decide_eq_true_eq, decide_eq_false_iff_not, beq_iff_eq, beq_eq_false_iff_ne, bne_iff_ne, bne_eq_false_iff_eq, ne_eq, gt_iff_lt, ge_iff_le] at *; omega)
  · exact H.hmm
  · exact H.hsl
  · exact H.hnw
  · (have q1 := H.sq0; have q2 := H.sq1; have q3 := H.ck0; have q4 := H.ck1; have q7 := H.mm0; have q8 := H.mm1; have q9 := H.sl0; have q10 := H.sl1; have q11 := H.nw0; have q12 := H.nw1; have q13 := H.h10; have q14 := H.h12; clear H; simp only [Fact.holds, Sx.den, cmpI, opI, goI, IntKind.wrap_i64, IntKind.wrap_i32, IntKind.wrap_u64, IntKind.wrap_u32, IntKind.wrap_u16, IntKind.wrap_u8, Option.some.injEq, decide_eq_true_eq, decide_eq_false_iff_not, beq_iff_eq, beq_eq_false_iff_ne, bne_iff_ne, bne_eq_false_iff_eq, ne_eq, gt_iff_lt, ge_iff_le] at *; omega)
  · (have q1 := H.sq0; have q2 := H.sq1; have q3 := H.ck0; have q4 := H.ck1; have q7 := H.mm0; have q8 := H.mm1; have q9 := H.sl0; have q10 := H.sl1; have q11 := H.nw0; have q12 := H.nw1; have q13 := H.h10; have q14 := H.h12; clear H; simp only [Fact.holds, Sx.den, cmpI, opI, goI, IntKind.wrap_i64, IntKind.wrap_i32, IntKind.wrap_u64, IntKind.wrap_u32, IntKind.wrap_u16, IntKind.wrap_u8, Option.some.injEq, decide_eq_true_eq, decide_eq_false_iff_not, beq_iff_eq, beq_eq_false_iff_ne, bne_iff_ne, bne_eq_false_iff_eq, ne_eq, gt_iff_lt, ge_iff_le] at *; omega)
  · (have q1 := H.sq0; have q2 := H.sq1; have q3 := H.ck0; have q4 := H.ck1; have q7 := H.mm0; have q8 := H.mm1; have q9 := H.sl0; have q10 := H.sl1; have q11 := H.nw0; have q12 := H.nw1; have q13 := H.h10; have q14 := H.h12; clear H; simp only [Fact.holds, Sx.den, cmpI, opI, goI, IntKind.wrap_i64, IntKind.wrap_i32, IntKind.wrap_u64, IntKind.wrap_u32, IntKind.wrap_u16, IntKind.wrap_u8, Option.some.injEq, decide_eq_true_eq, decide_eq_false_iff_not, beq_iff_eq, beq_eq_false_iff_ne, bne_iff_ne, bne_eq_false_iff_eq, ne_eq, gt_iff_lt, ge_iff_le] at *; omega)
  · (have q1 := H.sq0; have q2 := H.sq1; have q3 := H.ck0; have q4 := H.ck1; have q7 := H.mm0; have q8 := H.mm1; have q9 := H.sl0; have q10 := H.sl1; have q11 := H.nw0; have q12 := H.nw1; have q13 := H.h10; have q14 := H.h12; clear H; simp only [Fact.holds, Sx.den, cmpI, opI, goI, IntKind.wrap_i64, IntKind.wrap_i32, IntKind.wrap_u64, IntKind.wrap_u32, IntKind.wrap_u16, IntKind.wrap_u8, Option.some.injEq, decide_eq_true_eq, decide_eq_false_iff_not, beq_iff_eq, beq_eq_false_iff_ne, bne_iff_ne, bne_eq_false_iff_eq, ne_eq, gt_iff_lt, ge_iff_le] at *; omega)
  · (have q1 := H.sq0; have q2 := H.sq1; have q3 := H.ck0; have q4 := H.ck1; have q7 := H.mm0; have q8 := H.mm1; have q9 := H.sl0; have q10 := H.sl1; have q11 := H.nw0; have q12 := H.nw1; have q13 := H.h10; have q14 := H.h12; clear H; simp only [Fact.holds, Sx.den, cmpI, opI, goI, IntKind.wrap_i64, IntKind.wrap_i32, IntKind.wrap_u64, IntKind.wrap_u32, IntKind.wrap_u16, IntKind.wrap_u8, Option.some.injEq, decide_eq_true_eq, decide_eq_false_iff_not, beq_iff_eq, beq_eq_false_iff_ne, bne_iff_ne, bne_eq_false_iff_eq, ne_eq, gt_iff_lt, ge_iff_le] at *; omega)
  · (have q1 := H.sq0; have q2 := H.sq1; have q3 := H.ck0; have q4 := H.ck1; have q7 := H.mm0; have q8 := H.mm1; have q9 := H.sl0; have q10 := H.sl1; have q11 := H.nw0; have q12 := H.nw1; have q13 := H.h10; have q14 := H.h12; clear H; simp only [Fact.holds, Sx.den, cmpI, opI, goI, IntKind.wrap_i64, IntKind.wrap_i32, IntKind.wrap_u64, IntKind.wrap_u32, IntKind.wrap_u16, IntKind.wrap_u8, Option.some.injEq, decide_eq_true_eq, decide_eq_false_iff_not, beq_iff_eq, beq_eq_false_iff_ne, bne_iff_ne, bne_eq_false_iff_eq, ne_eq, gt_iff_lt, ge_iff_le] at *; omega)
  · (have q1 := H.sq0; have q2 := H.sq1; have q3 := H.ck0; have q4 := H.ck1; have q7 := H.mm0; have q8 := H.mm1; have q9 := H.sl0; have q10 := H.sl1; have q11 := H.nw0; have q12 := H.nw1; have q13 := H.h10; have q14 := H.h12; clear H; simp only [Fact.holds, Sx.den, cmpI, opI, goI, IntKind.wrap_i64, IntKind.wrap_i32, IntKind.wrap_u64, IntKind.wrap_u32, IntKind.wrap_u16, IntKind.wrap_u8, Option.some.injEq, decide_eq_true_eq, decide_eq_false_iff_not, beq_iff_eq, beq_eq_false_iff_ne, bne_iff_ne, bne_eq_false_iff_eq, ne_eq, gt_iff_lt, ge_iff_le] at *; omega)
  · (have q1 := H.sq0; have q2 := H.sq1; have q3 := H.ck0; have q4 := H.ck1; have q7 := H.mm0; have q8 := H.mm1; have q9 := H.sl0; have q10 := H.sl1; have q11 := H.nw0; have q12 := H.nw1; have q13 := H.h10; have q14 := H.h12; clear H; simp only [Fact.holds, Sx.den, cmpI, opI, goI, IntKind.wrap_i64, IntKind.wrap_i32, IntKind.wrap_u64, IntKind.wrap_u32, IntKind.wrap_u16, IntKind.wrap_u8, Option.some.injEq, decide_eq_true_eq, decide_eq_false_iff_not, beq_iff_eq, beq_eq_false_iff_ne, bne_iff_ne, bne_eq_false_iff_eq, ne_eq, gt_iff_lt, ge_iff_le] at *; omega)

theorem gapp_ok {i : Nat → Int} {a b : List Fact} (h1 : ∀ f, f ∈ a → f.holds i) (h2 : ∀ f, f ∈ b → f.holds i) : ∀ f, f ∈ a ++ b → f.holds i := fun f hf => by
  rcases List.mem_append.1 hf with h | h
  · exact h1 f h
  · exact h2 f h
def goF0 : List Fact := [.is (.o .add .u32 (.v 3) (.c 1)) (.v 10), .is (.o .add .u32 (.v 10) (.c 0)) (.v 10), .is (.o .sub .u32 (.v 10) (.v 10)) (.c 0), .is (.o .add .u32 (.v 10) (.c 27)) (.v 11), .is (.o .add .u32 (.v 6) (.c 1)) (.v 12), .is (.o .sub .u32 (.v 10) (.c 1)) (.v 3), .is (.o .sub .u32 (.v 12) (.c 1)) (.v 6), .is (.o .add .u16 (.c 88) (.o .rem .u16 (.v 1) (.c 1373))) (.v 7), .is (.o .sub .i64 (.w .i64 (.o .rem .u64 (.w .u64 (.v 2)) (.c 16))) (.c 1)) (.v 8), .is (.o .add .u64 (.c 1000) (.w .u64 (.v 5))) (.v 9), .cmp .geq (.v 7) (.c 88) true, .cmp .leq (.v 7) (.c 1460) true, .cmp .geq (.v 8) (.c (-1)) true, .cmp .leq (.v 8) (.c 14) true, .cmp .geq (.o .sub .u64 (.o .add .u64 (.v 9) (.c 200)) (.c 1)) (.o .add .u64 (.v 9) (.c 200)) false, .cmp .geq (.o .add .u64 (.v 9) (.c 200)) (.o .add .u64 (.v 9) (.c 200)) true, .cmp .geq (.o .sub .u64 (.o .add .u64 (.v 9) (.c 128)) (.c 1)) (.o .add .u64 (.v 9) (.c 128)) false, .cmp .geq (.o .add .u64 (.v 9) (.c 128)) (.o .add .u64 (.v 9) (.c 128)) true, .cmp .lss (.v 8) (.c 0) true]
theorem goF0_ok (sn ms sc sq lt by_ ck mm sl nw f1 f28 a1 : Int) (H : GoH sn ms sc sq lt by_ ck mm sl nw f1 f28 a1) (hs : sl < 0) : ∀ f, f ∈ goF0 → f.holds (goI sn ms sc sq lt by_ ck mm sl nw f1 f28 a1) := by
  refine gapp_ok (a := goB) (b := [.cmp .lss (.v 8) (.c 0) true]) (goB_ok sn ms sc sq lt by_ ck mm sl nw f1 f28 a1 H) fun f hf => ?_
  simp only [List.mem_cons, List.not_mem_nil, or_false] at hf
  subst hf
  (clear H; simp only [Fact.holds, Sx.den, cmpI, opI, goI, IntKind.wrap_i64, IntKind.wrap_i32, IntKind.wrap_u64, IntKind.wrap_u32, IntKind.wrap_u16, IntKind.wrap_u8, Option.some.injEq, decide_eq_true_eq, decide_eq_false_iff_not, beq_iff_eq, beq_eq_false_iff_ne, bne_iff_ne, bne_eq_false_iff_eq, ne_eq, gt_iff_lt, ge_iff_le]; omega)
def goF1 : List Fact := [.is (.o .add .u32 (.v 3) (.c 1)) (.v 10), .is (.o .add .u32 (.v 10) (.c 0)) (.v 10), .is (.o .sub .u32 (.v 10) (.v 10)) (.c 0), .is (.o .add .u32 (.v 10) (.c 27)) (.v 11), .is (.o .add .u32 (.v 6) (.c 1)) (.v 12), .is (.o .sub .u32 (.v 10) (.c 1)) (.v 3), .is (.o .sub .u32 (.v 12) (.c 1)) (.v 6), .is (.o .add .u16 (.c 88) (.o .rem .u16 (.v 1) (.c 1373))) (.v 7), .is (.o .sub .i64 (.w .i64 (.o .rem .u64 (.w .u64 (.v 2)) (.c 16))) (.c 1)) (.v 8), .is (.o .add .u64 (.c 1000) (.w .u64 (.v 5))) (.v 9), .cmp .geq (.v 7) (.c 88) true, .cmp .leq (.v 7) (.c 1460) true, .cmp .geq (.v 8) (.c (-1)) true, .cmp .leq (.v 8) (.c 14) true, .cmp .geq (.o .sub .u64 (.o .add .u64 (.v 9) (.c 200)) (.c 1)) (.o .add .u64 (.v 9) (.c 200)) false, .cmp .geq (.o .add .u64 (.v 9) (.c 200)) (.o .add .u64 (.v 9) (.c 200)) true, .cmp .geq (.o .sub .u64 (.o .add .u64 (.v 9) (.c 128)) (.c 1)) (.o .add .u64 (.v 9) (.c 128)) false, .cmp .geq (.o .add .u64 (.v 9) (.c 128)) (.o .add .u64 (.v 9) (.c 128)) true, .cmp .lss (.v 8) (.c 0) false]
theorem goF1_ok (sn ms sc sq lt by_ ck mm sl nw f1 f28 a1 : Int) (H : GoH sn ms sc sq lt by_ ck mm sl nw f1 f28 a1) (hs : 0 ≤ sl) : ∀ f, f ∈ goF1 → f.holds (goI sn ms sc sq lt by_ ck mm sl nw f1 f28 a1) := by
  refine gapp_ok (a := goB) (b := [.cmp .lss (.v 8) (.c 0) false]) (goB_ok sn ms sc sq lt by_ ck mm sl nw f1 f28 a1 H) fun f hf => ?_
  simp only [List.mem_cons, List.not_mem_nil, or_false] at hf
  subst hf
  (clear H; simp only [Fact.holds, Sx.den, cmpI, opI, goI, IntKind.wrap_i64, IntKind.wrap_i32, IntKind.wrap_u64, IntKind.wrap_u32, IntKind.wrap_u16, IntKind.wrap_u8, Option.some.injEq, decide_eq_true_eq, decide_eq_false_iff_not, beq_iff_eq, beq_eq_false_iff_ne, bne_iff_ne, bne_eq_false_iff_eq, ne_eq, gt_iff_lt, ge_iff_le]; omega)

def goV (A1 : Option Addr) (n1 k1 : Nat) (A2 : Option Addr) (n2 k2 : Nat) (n : Nat) : Value := match n with
  | 0 => .slice A1 n1 k1
  | _ => .slice A2 n2 k2
theorem goVo (A1 : Option Addr) (n1 k1 : Nat) (A2 : Option Addr) (n2 k2 : Nat) (n : Nat) : (goV A1 n1 k1 A2 n2 k2 n).cells = #[goV A1 n1 k1 A2 n2 k2 n] ∧ (goV A1 n1 k1 A2 n2 k2 n).oneCell' = true := by
  unfold goV
  split <;> exact ⟨rfl, rfl⟩
abbrev goE (W : World) (sn ms sc sq lt by_ ck mm sl nw f1 f28 a1 : Int) (A1 : Option Addr) (n1 k1 : Nat) (A2 : Option Addr) (n2 k2 : Nat) (ft : List Fact) (h : ∀ f, f ∈ ft → f.holds (goI sn ms sc sq lt by_ ck mm sl nw f1 f28 a1)) : Inhabited EnvT := ⟨⟨goI sn ms sc sq lt by_ ck mm sl nw f1 f28 a1, goV A1 n1 k1 A2 n2 k2, ft, h, goVo A1 n1 k1 A2 n2 k2, W.heap.size, fun b => W.heap[b]?⟩⟩
def goX : List (Nat × XK) :=
  [(7, .tab [([], .bool true)]), (50, .tab [([.int .u64 19088743, .agg [.int .u8 6, .int .u32 167772162, .int .u32 3221225985, .int .u16 4000, .int .u16 80], .sx .u32 (.v 3), .int .u64 1000, .agg [.int .i64 7, .bool false, .int .i64 (-1)]], .tup [.sx .u32 (.v 6), .int .i64 0])]), (53, .tab [([.int .u64 19088743, .agg [.int .u8 6, .int .u32 167772162, .int .u32 3221225985, .int .u16 4000, .int .u16 80], .sx .u32 (.v 3), .int .u64 1000, .sx .u32 (.v 6)], .tup [.agg [.int .i64 7, .bool false, .int .i64 (-1)], .int .i64 0])]),
   (203, .clone), (220, .sorted 230), (8, .mk reqT), (223, .bt lookT), (47, .tab classT), (54, .tab sizeT)]
def goInf : Inf := ⟨7, false, -1⟩
theorem goInf_ok : goInf.Ok := ⟨⟨by decide, by decide⟩, by decide, by decide⟩
set_option maxRecDepth 100000 in
theorem go_good (W : World) (hC : CW W) (sn ms sc sq lt by_ ck mm sl nw f1 f28 a1 : Int) (A1 : Option Addr) (n1 k1 : Nat) (A2 : Option Addr) (n2 k2 : Nat) (ft : List Fact) (h : ∀ f, f ∈ ft → f.holds (goI sn ms sc sq lt by_ ck mm sl nw f1 f28 a1)) (H : GoH sn ms sc sq lt by_ ck mm sl nw f1 f28 a1) (hck : makeC keyC tupC sq 1000 goInf = ck) :
    ∀ f k, xlk goX f = some k → @XGood (goE W sn ms sc sq lt by_ ck mm sl nw f1 f28 a1 A1 n1 k1 A2 n2 k2 ft h) Tryz.prog noG f k := by
  letI E0 : Inhabited EnvT := goE W sn ms sc sq lt by_ ck mm sl nw f1 f28 a1 A1 n1 k1 A2 n2 k2 ft h
  have hcw : ∀ w : World, (∀ b, b < W.heap.size → w.heap[b]? = W.heap[b]?) → W.heap.size ≤ w.heap.size → CW w := fun w ho hb => hC.heap ho hb
  intro f k hk
  unfold goX at hk
  rcases xlk_cons hk with ⟨rfl, rfl⟩ | hk
  · refine tab_good (enters_of Tryz.func7 (by kernel_rfl) rfl) fun a v hm ρ Vs w hR ho hb => ?_
    simp only [List.mem_singleton, Prod.mk.injEq] at hm
    obtain ⟨rfl, rfl⟩ := hm
    exact tab_one (As := []) rfl (fun _ => .bool _) hR (awake_any w (hcw w ho hb))
  rcases xlk_cons hk with ⟨rfl, rfl⟩ | hk
  · refine tab_good (enters_of Tryz.func50 (by kernel_rfl) rfl) fun a v hm ρ Vs w hR ho hb => ?_
    simp only [List.mem_singleton, Prod.mk.injEq] at hm
    obtain ⟨rfl, rfl⟩ := hm
    refine tab_one (As := [.int .u64 keyC, tupV tupC, .int .u32 sq, .int .u64 1000, infV goInf]) (Va := .tuple #[.int .u32 ck, .int .i64 0]) rfl (fun _ => .tup (.cons (.sx _ _) (.cons (.int _ _) .nil))) hR ((make_any w (hcw w ho hb).cl keyC tupC sq 1000 goInf keyC_ok tupC_ok H.sq0 H.sq1 (by decide) (by decide) (Inf.in_of goInf_ok)).mono ?_)
    rintro e w' ⟨rfl, kk⟩
    rw [hck, show makeE goInf = 0 by unfold makeE; rw [if_pos goInf_ok]]
    exact ⟨rfl, kk.below (Nat.le_refl _) (by simp)⟩
  rcases xlk_cons hk with ⟨rfl, rfl⟩ | hk
  · refine tab_good (enters_of Tryz.func53 (by kernel_rfl) rfl) fun a v hm ρ Vs w hR ho hb => ?_
    simp only [List.mem_singleton, Prod.mk.injEq] at hm
    obtain ⟨rfl, rfl⟩ := hm
    refine tab_one (As := [.int .u64 keyC, tupV tupC, .int .u32 sq, .int .u64 1000, .int .u32 ck]) (Va := .tuple #[infV goInf, .int .i64 0]) rfl (fun ρ' => .tup (.cons (.agg (.cons (.int _ _) (.cons (.bool _) (.cons (.int _ _) .nil)))) (.cons (.int _ _) .nil))) hR ((check_any w keyC tupC sq 1000 ck keyC_ok tupC_ok H.sq0 H.sq1 (by decide) (by decide) H.ck0 H.ck1).mono ?_)
    rintro e w' ⟨rfl, kk⟩
    obtain ⟨e1, e2⟩ := ck_fresh (sq := sq) (th := 1000) goInf_ok (by decide) (by decide)
    rw [hck] at e1 e2
    rw [e1, e2]
    exact ⟨rfl, kk.below (Nat.le_refl _) (by simp)⟩
  exact conn_good hcw f k hk
theorem goT000 (W : World) (sn ms sc sq lt by_ ck mm sl nw f1 f28 a1 : Int) (A1 : Option Addr) (n1 k1 : Nat) (A2 : Option Addr) (n2 k2 : Nat) (h : ∀ f, f ∈ goF0 → f.holds (goI sn ms sc sq lt by_ ck mm sl nw f1 f28 a1)) : @lawSymX (goE W sn ms sc sq lt by_ ck mm sl nw f1 f28 a1 A1 n1 k1 A2 n2 k2 goF0 h) Tryz.prog goX 400 3 [.agg [.sx .i64 (.v 0), .sx .u16 (.v 1), .sx .i64 (.v 2), .bool false, .sx .u32 (.v 3), .ov 0, .sx .u8 (.v 4), .ov 1], .bool false, .sx .u8 (.v 5)] = True := by kernel_rfl
theorem goT001 (W : World) (sn ms sc sq lt by_ ck mm sl nw f1 f28 a1 : Int) (A1 : Option Addr) (n1 k1 : Nat) (A2 : Option Addr) (n2 k2 : Nat) (h : ∀ f, f ∈ goF0 → f.holds (goI sn ms sc sq lt by_ ck mm sl nw f1 f28 a1)) : @lawSymX (goE W sn ms sc sq lt by_ ck mm sl nw f1 f28 a1 A1 n1 k1 A2 n2 k2 goF0 h) Tryz.prog goX 400 3 [.agg [.sx .i64 (.v 0), .sx .u16 (.v 1), .sx .i64 (.v 2), .bool false, .sx .u32 (.v 3), .ov 0, .sx .u8 (.v 4), .ov 1], .bool true, .sx .u8 (.v 5)] = True := by kernel_rfl
theorem goT010 (W : World) (sn ms sc sq lt by_ ck mm sl nw f1 f28 a1 : Int) (A1 : Option Addr) (n1 k1 : Nat) (A2 : Option Addr) (n2 k2 : Nat) (h : ∀ f, f ∈ goF1 → f.holds (goI sn ms sc sq lt by_ ck mm sl nw f1 f28 a1)) : @lawSymX (goE W sn ms sc sq lt by_ ck mm sl nw f1 f28 a1 A1 n1 k1 A2 n2 k2 goF1 h) Tryz.prog goX 400 3 [.agg [.sx .i64 (.v 0), .sx .u16 (.v 1), .sx .i64 (.v 2), .bool false, .sx .u32 (.v 3), .ov 0, .sx .u8 (.v 4), .ov 1], .bool false, .sx .u8 (.v 5)] = True := by kernel_rfl
theorem goT011 (W : World) (sn ms sc sq lt by_ ck mm sl nw f1 f28 a1 : Int) (A1 : Option Addr) (n1 k1 : Nat) (A2 : Option Addr) (n2 k2 : Nat) (h : ∀ f, f ∈ goF1 → f.holds (goI sn ms sc sq lt by_ ck mm sl nw f1 f28 a1)) : @lawSymX (goE W sn ms sc sq lt by_ ck mm sl nw f1 f28 a1 A1 n1 k1 A2 n2 k2 goF1 h) Tryz.prog goX 400 3 [.agg [.sx .i64 (.v 0), .sx .u16 (.v 1), .sx .i64 (.v 2), .bool false, .sx .u32 (.v 3), .ov 0, .sx .u8 (.v 4), .ov 1], .bool true, .sx .u8 (.v 5)] = True := by kernel_rfl
theorem goT100 (W : World) (sn ms sc sq lt by_ ck mm sl nw f1 f28 a1 : Int) (A1 : Option Addr) (n1 k1 : Nat) (A2 : Option Addr) (n2 k2 : Nat) (h : ∀ f, f ∈ goF0 → f.holds (goI sn ms sc sq lt by_ ck mm sl nw f1 f28 a1)) : @lawSymX (goE W sn ms sc sq lt by_ ck mm sl nw f1 f28 a1 A1 n1 k1 A2 n2 k2 goF0 h) Tryz.prog goX 400 3 [.agg [.sx .i64 (.v 0), .sx .u16 (.v 1), .sx .i64 (.v 2), .bool true, .sx .u32 (.v 3), .ov 0, .sx .u8 (.v 4), .ov 1], .bool false, .sx .u8 (.v 5)] = True := by kernel_rfl
theorem goT101 (W : World) (sn ms sc sq lt by_ ck mm sl nw f1 f28 a1 : Int) (A1 : Option Addr) (n1 k1 : Nat) (A2 : Option Addr) (n2 k2 : Nat) (h : ∀ f, f ∈ goF0 → f.holds (goI sn ms sc sq lt by_ ck mm sl nw f1 f28 a1)) : @lawSymX (goE W sn ms sc sq lt by_ ck mm sl nw f1 f28 a1 A1 n1 k1 A2 n2 k2 goF0 h) Tryz.prog goX 400 3 [.agg [.sx .i64 (.v 0), .sx .u16 (.v 1), .sx .i64 (.v 2), .bool true, .sx .u32 (.v 3), .ov 0, .sx .u8 (.v 4), .ov 1], .bool true, .sx .u8 (.v 5)] = True := by kernel_rfl
theorem goT110 (W : World) (sn ms sc sq lt by_ ck mm sl nw f1 f28 a1 : Int) (A1 : Option Addr) (n1 k1 : Nat) (A2 : Option Addr) (n2 k2 : Nat) (h : ∀ f, f ∈ goF1 → f.holds (goI sn ms sc sq lt by_ ck mm sl nw f1 f28 a1)) : @lawSymX (goE W sn ms sc sq lt by_ ck mm sl nw f1 f28 a1 A1 n1 k1 A2 n2 k2 goF1 h) Tryz.prog goX 400 3 [.agg [.sx .i64 (.v 0), .sx .u16 (.v 1), .sx .i64 (.v 2), .bool true, .sx .u32 (.v 3), .ov 0, .sx .u8 (.v 4), .ov 1], .bool false, .sx .u8 (.v 5)] = True := by kernel_rfl
theorem goT111 (W : World) (sn ms sc sq lt by_ ck mm sl nw f1 f28 a1 : Int) (A1 : Option Addr) (n1 k1 : Nat) (A2 : Option Addr) (n2 k2 : Nat) (h : ∀ f, f ∈ goF1 → f.holds (goI sn ms sc sq lt by_ ck mm sl nw f1 f28 a1)) : @lawSymX (goE W sn ms sc sq lt by_ ck mm sl nw f1 f28 a1 A1 n1 k1 A2 n2 k2 goF1 h) Tryz.prog goX 400 3 [.agg [.sx .i64 (.v 0), .sx .u16 (.v 1), .sx .i64 (.v 2), .bool true, .sx .u32 (.v 3), .ov 0, .sx .u8 (.v 4), .ov 1], .bool true, .sx .u8 (.v 5)] = True := by kernel_rfl

theorem gtmod_bd {a : Int} (m : Int) (h0 : 0 ≤ a) : a.tmod m = a % m := Int.tmod_eq_emod_of_nonneg h0
set_option maxRecDepth 100000 in
theorem goes_walk (W : World) (hC : CW W) (sn ms sc sq lt by_ : Int) (sa de : Bool) (i1 : 0 ≤ ms ∧ ms ≤ 65535) (i3 : 0 ≤ sq ∧ sq ≤ 4294967295) (i5 : 0 ≤ by_ ∧ by_ ≤ 255) (A1 : Option Addr) (n1 k1 : Nat) (A2 : Option Addr) (n2 k2 : Nat) :
    Calls Tryz.prog 3 #[.agg #[.int .i64 sn, .int .u16 ms, .int .i64 sc, .bool sa, .int .u32 sq, .slice A1 n1 k1, .int .u8 lt, .slice A2 n2 k2], .bool de, .int .u8 by_] W fun e W' => e = .returned (.bool true) ∧ Below W.heap.size W W' := by
  obtain ⟨nw, hnw⟩ : ∃ nw, IntKind.u64.wrap (1000 + IntKind.u64.wrap by_) = nw := ⟨_, rfl⟩
  obtain ⟨mm, hmm⟩ : ∃ mm, IntKind.u16.wrap (88 + ms.tmod 1373) = mm := ⟨_, rfl⟩
  obtain ⟨sl, hsl⟩ : ∃ sl, IntKind.i64.wrap (IntKind.i64.wrap ((IntKind.u64.wrap sc).tmod 16) - 1) = sl := ⟨_, rfl⟩
  obtain ⟨f1, h10⟩ : ∃ f, IntKind.u32.wrap (sq + 1) = f := ⟨_, rfl⟩
  obtain ⟨f28, h11⟩ : ∃ f, IntKind.u32.wrap (f1 + 27) = f := ⟨_, rfl⟩
  obtain ⟨ck, hck⟩ : ∃ c, makeC keyC tupC sq 1000 goInf = c := ⟨_, rfl⟩
  obtain ⟨a1, h12⟩ : ∃ f, IntKind.u32.wrap (ck + 1) = f := ⟨_, rfl⟩
  have hcb := ck_bd (sq := sq) goInf_ok
  rw [hck] at hcb
  have bnw : 1000 ≤ nw ∧ nw ≤ 1255 := by rw [← hnw]; simp only [IntKind.wrap_u64]; omega
  have bmm : 88 ≤ mm ∧ mm ≤ 1460 := by rw [← hmm, gtmod_bd 1373 i1.1]; simp only [IntKind.wrap_u16]; omega
  have bsl : -1 ≤ sl ∧ sl ≤ 14 := by
    have hu : 0 ≤ IntKind.u64.wrap sc := by simp only [IntKind.wrap_u64]; omega
    rw [← hsl, gtmod_bd 16 hu]
    generalize IntKind.u64.wrap sc = q at *
    simp only [IntKind.wrap_i64]; omega
  have H : GoH sn ms sc sq lt by_ ck mm sl nw f1 f28 a1 := ⟨i3.1, i3.2, hcb.1, hcb.2, h10, h11, h12, hmm, hsl, hnw, bmm.1, bmm.2, bsl.1, bsl.2, bnw.1, bnw.2⟩
  by_cases hs : 0 ≤ sl
  · cases sa <;> cases de
    · skip
      letI : Inhabited EnvT := goE W sn ms sc sq lt by_ ck mm sl nw f1 f28 a1 A1 n1 k1 A2 n2 k2 goF1 (goF1_ok sn ms sc sq lt by_ ck mm sl nw f1 f28 a1 H hs)
      exact lawSymX_calls (Vs := [.agg ⟨[.int .i64 sn, .int .u16 ms, .int .i64 sc, .bool false, .int .u32 sq, .slice A1 n1 k1, .int .u8 lt, .slice A2 n2 k2]⟩, .bool false, .int .u8 by_]) (go_good W hC sn ms sc sq lt by_ ck mm sl nw f1 f28 a1 A1 n1 k1 A2 n2 k2 goF1 (goF1_ok sn ms sc sq lt by_ ck mm sl nw f1 f28 a1 H hs) H hck) (goT010 W sn ms sc sq lt by_ ck mm sl nw f1 f28 a1 A1 n1 k1 A2 n2 k2 (goF1_ok sn ms sc sq lt by_ ck mm sl nw f1 f28 a1 H hs)) (.cons (.agg (.cons (.sx _ (.v 0)) (.cons (.sx _ (.v 1)) (.cons (.sx _ (.v 2)) (.cons (.bool _) (.cons (.sx _ (.v 3)) (.cons (.ov 0) (.cons (.sx _ (.v 4)) (.cons (.ov 1) .nil))))))))) (.cons (.bool _) (.cons (.sx _ (.v 5)) .nil))) W (fun b _ => rfl) (Nat.le_refl _)
    · skip
      letI : Inhabited EnvT := goE W sn ms sc sq lt by_ ck mm sl nw f1 f28 a1 A1 n1 k1 A2 n2 k2 goF1 (goF1_ok sn ms sc sq lt by_ ck mm sl nw f1 f28 a1 H hs)
      exact lawSymX_calls (Vs := [.agg ⟨[.int .i64 sn, .int .u16 ms, .int .i64 sc, .bool false, .int .u32 sq, .slice A1 n1 k1, .int .u8 lt, .slice A2 n2 k2]⟩, .bool true, .int .u8 by_]) (go_good W hC sn ms sc sq lt by_ ck mm sl nw f1 f28 a1 A1 n1 k1 A2 n2 k2 goF1 (goF1_ok sn ms sc sq lt by_ ck mm sl nw f1 f28 a1 H hs) H hck) (goT011 W sn ms sc sq lt by_ ck mm sl nw f1 f28 a1 A1 n1 k1 A2 n2 k2 (goF1_ok sn ms sc sq lt by_ ck mm sl nw f1 f28 a1 H hs)) (.cons (.agg (.cons (.sx _ (.v 0)) (.cons (.sx _ (.v 1)) (.cons (.sx _ (.v 2)) (.cons (.bool _) (.cons (.sx _ (.v 3)) (.cons (.ov 0) (.cons (.sx _ (.v 4)) (.cons (.ov 1) .nil))))))))) (.cons (.bool _) (.cons (.sx _ (.v 5)) .nil))) W (fun b _ => rfl) (Nat.le_refl _)
    · skip
      letI : Inhabited EnvT := goE W sn ms sc sq lt by_ ck mm sl nw f1 f28 a1 A1 n1 k1 A2 n2 k2 goF1 (goF1_ok sn ms sc sq lt by_ ck mm sl nw f1 f28 a1 H hs)
      exact lawSymX_calls (Vs := [.agg ⟨[.int .i64 sn, .int .u16 ms, .int .i64 sc, .bool true, .int .u32 sq, .slice A1 n1 k1, .int .u8 lt, .slice A2 n2 k2]⟩, .bool false, .int .u8 by_]) (go_good W hC sn ms sc sq lt by_ ck mm sl nw f1 f28 a1 A1 n1 k1 A2 n2 k2 goF1 (goF1_ok sn ms sc sq lt by_ ck mm sl nw f1 f28 a1 H hs) H hck) (goT110 W sn ms sc sq lt by_ ck mm sl nw f1 f28 a1 A1 n1 k1 A2 n2 k2 (goF1_ok sn ms sc sq lt by_ ck mm sl nw f1 f28 a1 H hs)) (.cons (.agg (.cons (.sx _ (.v 0)) (.cons (.sx _ (.v 1)) (.cons (.sx _ (.v 2)) (.cons (.bool _) (.cons (.sx _ (.v 3)) (.cons (.ov 0) (.cons (.sx _ (.v 4)) (.cons (.ov 1) .nil))))))))) (.cons (.bool _) (.cons (.sx _ (.v 5)) .nil))) W (fun b _ => rfl) (Nat.le_refl _)
    · skip
      letI : Inhabited EnvT := goE W sn ms sc sq lt by_ ck mm sl nw f1 f28 a1 A1 n1 k1 A2 n2 k2 goF1 (goF1_ok sn ms sc sq lt by_ ck mm sl nw f1 f28 a1 H hs)
      exact lawSymX_calls (Vs := [.agg ⟨[.int .i64 sn, .int .u16 ms, .int .i64 sc, .bool true, .int .u32 sq, .slice A1 n1 k1, .int .u8 lt, .slice A2 n2 k2]⟩, .bool true, .int .u8 by_]) (go_good W hC sn ms sc sq lt by_ ck mm sl nw f1 f28 a1 A1 n1 k1 A2 n2 k2 goF1 (goF1_ok sn ms sc sq lt by_ ck mm sl nw f1 f28 a1 H hs) H hck) (goT111 W sn ms sc sq lt by_ ck mm sl nw f1 f28 a1 A1 n1 k1 A2 n2 k2 (goF1_ok sn ms sc sq lt by_ ck mm sl nw f1 f28 a1 H hs)) (.cons (.agg (.cons (.sx _ (.v 0)) (.cons (.sx _ (.v 1)) (.cons (.sx _ (.v 2)) (.cons (.bool _) (.cons (.sx _ (.v 3)) (.cons (.ov 0) (.cons (.sx _ (.v 4)) (.cons (.ov 1) .nil))))))))) (.cons (.bool _) (.cons (.sx _ (.v 5)) .nil))) W (fun b _ => rfl) (Nat.le_refl _)
  · have hs : sl < 0 := by omega
    cases sa <;> cases de
    · skip
      letI : Inhabited EnvT := goE W sn ms sc sq lt by_ ck mm sl nw f1 f28 a1 A1 n1 k1 A2 n2 k2 goF0 (goF0_ok sn ms sc sq lt by_ ck mm sl nw f1 f28 a1 H hs)
      exact lawSymX_calls (Vs := [.agg ⟨[.int .i64 sn, .int .u16 ms, .int .i64 sc, .bool false, .int .u32 sq, .slice A1 n1 k1, .int .u8 lt, .slice A2 n2 k2]⟩, .bool false, .int .u8 by_]) (go_good W hC sn ms sc sq lt by_ ck mm sl nw f1 f28 a1 A1 n1 k1 A2 n2 k2 goF0 (goF0_ok sn ms sc sq lt by_ ck mm sl nw f1 f28 a1 H hs) H hck) (goT000 W sn ms sc sq lt by_ ck mm sl nw f1 f28 a1 A1 n1 k1 A2 n2 k2 (goF0_ok sn ms sc sq lt by_ ck mm sl nw f1 f28 a1 H hs)) (.cons (.agg (.cons (.sx _ (.v 0)) (.cons (.sx _ (.v 1)) (.cons (.sx _ (.v 2)) (.cons (.bool _) (.cons (.sx _ (.v 3)) (.cons (.ov 0) (.cons (.sx _ (.v 4)) (.cons (.ov 1) .nil))))))))) (.cons (.bool _) (.cons (.sx _ (.v 5)) .nil))) W (fun b _ => rfl) (Nat.le_refl _)
    · skip
      letI : Inhabited EnvT := goE W sn ms sc sq lt by_ ck mm sl nw f1 f28 a1 A1 n1 k1 A2 n2 k2 goF0 (goF0_ok sn ms sc sq lt by_ ck mm sl nw f1 f28 a1 H hs)
      exact lawSymX_calls (Vs := [.agg ⟨[.int .i64 sn, .int .u16 ms, .int .i64 sc, .bool false, .int .u32 sq, .slice A1 n1 k1, .int .u8 lt, .slice A2 n2 k2]⟩, .bool true, .int .u8 by_]) (go_good W hC sn ms sc sq lt by_ ck mm sl nw f1 f28 a1 A1 n1 k1 A2 n2 k2 goF0 (goF0_ok sn ms sc sq lt by_ ck mm sl nw f1 f28 a1 H hs) H hck) (goT001 W sn ms sc sq lt by_ ck mm sl nw f1 f28 a1 A1 n1 k1 A2 n2 k2 (goF0_ok sn ms sc sq lt by_ ck mm sl nw f1 f28 a1 H hs)) (.cons (.agg (.cons (.sx _ (.v 0)) (.cons (.sx _ (.v 1)) (.cons (.sx _ (.v 2)) (.cons (.bool _) (.cons (.sx _ (.v 3)) (.cons (.ov 0) (.cons (.sx _ (.v 4)) (.cons (.ov 1) .nil))))))))) (.cons (.bool _) (.cons (.sx _ (.v 5)) .nil))) W (fun b _ => rfl) (Nat.le_refl _)
    · skip
      letI : Inhabited EnvT := goE W sn ms sc sq lt by_ ck mm sl nw f1 f28 a1 A1 n1 k1 A2 n2 k2 goF0 (goF0_ok sn ms sc sq lt by_ ck mm sl nw f1 f28 a1 H hs)
      exact lawSymX_calls (Vs := [.agg ⟨[.int .i64 sn, .int .u16 ms, .int .i64 sc, .bool true, .int .u32 sq, .slice A1 n1 k1, .int .u8 lt, .slice A2 n2 k2]⟩, .bool false, .int .u8 by_]) (go_good W hC sn ms sc sq lt by_ ck mm sl nw f1 f28 a1 A1 n1 k1 A2 n2 k2 goF0 (goF0_ok sn ms sc sq lt by_ ck mm sl nw f1 f28 a1 H hs) H hck) (goT100 W sn ms sc sq lt by_ ck mm sl nw f1 f28 a1 A1 n1 k1 A2 n2 k2 (goF0_ok sn ms sc sq lt by_ ck mm sl nw f1 f28 a1 H hs)) (.cons (.agg (.cons (.sx _ (.v 0)) (.cons (.sx _ (.v 1)) (.cons (.sx _ (.v 2)) (.cons (.bool _) (.cons (.sx _ (.v 3)) (.cons (.ov 0) (.cons (.sx _ (.v 4)) (.cons (.ov 1) .nil))))))))) (.cons (.bool _) (.cons (.sx _ (.v 5)) .nil))) W (fun b _ => rfl) (Nat.le_refl _)
    · skip
      letI : Inhabited EnvT := goE W sn ms sc sq lt by_ ck mm sl nw f1 f28 a1 A1 n1 k1 A2 n2 k2 goF0 (goF0_ok sn ms sc sq lt by_ ck mm sl nw f1 f28 a1 H hs)
      exact lawSymX_calls (Vs := [.agg ⟨[.int .i64 sn, .int .u16 ms, .int .i64 sc, .bool true, .int .u32 sq, .slice A1 n1 k1, .int .u8 lt, .slice A2 n2 k2]⟩, .bool true, .int .u8 by_]) (go_good W hC sn ms sc sq lt by_ ck mm sl nw f1 f28 a1 A1 n1 k1 A2 n2 k2 goF0 (goF0_ok sn ms sc sq lt by_ ck mm sl nw f1 f28 a1 H hs) H hck) (goT101 W sn ms sc sq lt by_ ck mm sl nw f1 f28 a1 A1 n1 k1 A2 n2 k2 (goF0_ok sn ms sc sq lt by_ ck mm sl nw f1 f28 a1 H hs)) (.cons (.agg (.cons (.sx _ (.v 0)) (.cons (.sx _ (.v 1)) (.cons (.sx _ (.v 2)) (.cons (.bool _) (.cons (.sx _ (.v 3)) (.cons (.ov 0) (.cons (.sx _ (.v 4)) (.cons (.ov 1) .nil))))))))) (.cons (.bool _) (.cons (.sx _ (.v 5)) .nil))) W (fun b _ => rfl) (Nat.le_refl _)
end Go.Proofs.YtocnkiojlifgpaaGreatDoor
namespace Go.Proofs.YtocnkiojlifgpaaGreatDoor
open Go.RowKit Go.ChangeShapes Go.WideShapes Go.ChangeAt Go.Joins Go.Lib
set_option linter.unusedVariables false
set_option maxRecDepth 100000 in
theorem connGoes_typed {H : Type} (enc : TypeId × Value → H) (W : World) (base : Nat) {v0 v1 v2 : Value} {d0 d1 d2 : DataW H} {p0 p1 p2 : List MemPlace}
    (o0 : Value.okWide Tryz.prog W .any base 29 v0) (o1 : Value.okWide Tryz.prog W .any base 4 v1) (o2 : Value.okWide Tryz.prog W .any base 5 v2)
    (h0 : DataW.Trod enc Tryz.prog W 0 (fun _ => true) true 29 v0 d0 p0) (h1 : DataW.Trod enc Tryz.prog W 0 (fun _ => true) true 4 v1 d1 p1) (h2 : DataW.Trod enc Tryz.prog W 0 (fun _ => true) true 5 v2 d2 p2) (hC : CW W) :
    Calls Tryz.prog 3 #[v0, v1, v2] W fun e W' => e = .returned (.bool true) ∧ Below W.heap.size W W' := by
  obtain ⟨sn, ms, sc, sa, sq, A1, n1, k1, lt, A2, n2, k2, rfl, i0, i1, i2, i3, i5⟩ := open_script o0 h0
  obtain ⟨by_, rfl, _, _, w2⟩ := open_int Tryz.underlying5 o2 h2
  obtain ⟨de, rfl, _, _⟩ := open_bool Tryz.underlying4 o1 h1
  exact goes_walk W hC sn ms sc sq lt by_ sa de i1 i3 (bounds_u8 w2) A1 n1 k1 A2 n2 k2
end Go.Proofs.YtocnkiojlifgpaaGreatDoor
