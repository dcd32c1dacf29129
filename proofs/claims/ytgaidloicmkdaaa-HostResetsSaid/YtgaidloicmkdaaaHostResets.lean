/-
  The law HostResets: it returns true at any numbers, and leaves what was there: reckoned by the evaluator at letters (EvU), case by case. Condition: the numbers are in the ranges of their kinds.
-/
import Derived.Test.YtgaidloicmkdaaaEvU
import Derived.Test.YtgaidloicmkdaaaRows
import Derived.OpenShut
import Derived.Lib.SmallJoins
namespace Go.Proofs.Ytgaidloicmkdaaa
open Ev Go.RowKit Go.ChangeShapes Go.WideShapes Go.ChangeAt Go.Joins
set_option linter.unusedVariables false
set_option linter.unusedSimpArgs false
def hostResets_i (iss irs off : Int) (n : Nat) : Int := match n with
  | 0 => iss
  | 1 => irs
  | 2 => off
  | _ => 0
abbrev hostResets_E (iss irs off : Int) (ft : List Fact) (h : ∀ f, f ∈ ft → f.holds (hostResets_i iss irs off)) : Inhabited EnvT := ⟨⟨hostResets_i iss irs off, fun _ => .bool false, ft, h, fun _ => ⟨rfl, rfl⟩⟩⟩

def hostResets_f0 : List Fact := [.cmp .gtr (.c 0) (.w .i32 (.o .sub .u32 (.o .add .u32 (.o .add .u32 (.v 0) (.c 1)) (.c 9)) (.o .add .u32 (.v 0) (.c 1)))) false, .cmp .leq (.o .sub .i64 (.w .i64 (.w .u32 (.w .i32 (.o .sub .u32 (.o .add .u32 (.o .add .u32 (.v 0) (.c 1)) (.c 9)) (.o .add .u32 (.v 0) (.c 1)))))) (.w .i64 (.o .sub .u32 (.o .add .u32 (.v 0) (.c 1)) (.o .add .u32 (.v 0) (.c 1))))) (.c 0) false, .cmp .eql (.o .add .u32 (.v 0) (.c 1)) (.o .add .u32 (.o .add .u32 (.v 0) (.c 1)) (.c 0)) true, .cmp .eql (.o .add .u32 (.o .add .u32 (.v 1) (.c 1)) (.v 2)) (.o .add .u32 (.v 1) (.c 1)) true, .cmp .neq (.o .add .u32 (.o .add .u32 (.v 1) (.c 1)) (.v 2)) (.o .add .u32 (.v 1) (.c 1)) false, .cmp .neq (.v 2) (.c 0) false]
set_option maxRecDepth 100000 in
theorem hostResets_h0 (iss irs off : Int) (r00 : 0 ≤ iss) (r01 : iss ≤ 4294967295) (r10 : 0 ≤ irs) (r11 : irs ≤ 4294967295) (r20 : 0 ≤ off) (r21 : off ≤ 4294967295) (hc : off = 0) : ∀ f, f ∈ hostResets_f0 → f.holds (hostResets_i iss irs off) := by
  intro f hf
  simp only [hostResets_f0, List.mem_cons, List.not_mem_nil, or_false] at hf
  rcases hf with rfl | rfl | rfl | rfl | rfl | rfl <;> (simp only [Fact.holds, Sx.den, cmpI, opI, hostResets_i, IntKind.wrap_i64, IntKind.wrap_i32, IntKind.wrap_u64, IntKind.wrap_u32, IntKind.wrap_u16, IntKind.wrap_u8, Option.some.injEq, decide_eq_true_eq, decide_eq_false_iff_not, beq_iff_eq, beq_eq_false_iff_ne, bne_iff_ne, bne_eq_false_iff_eq, ne_eq, gt_iff_lt, ge_iff_le]; omega)
theorem hostResets_t0 (iss irs off : Int) (h : ∀ f, f ∈ hostResets_f0 → f.holds (hostResets_i iss irs off)) : @lawSym (hostResets_E iss irs off hostResets_f0 h) Try.prog 400 5 [.sx .u32 (.v 0), .sx .u32 (.v 1), .sx .u32 (.v 2)] = True := by kernel_rfl

def hostResets_f1 : List Fact := [.cmp .gtr (.c 0) (.w .i32 (.o .sub .u32 (.o .add .u32 (.o .add .u32 (.v 0) (.c 1)) (.c 9)) (.o .add .u32 (.v 0) (.c 1)))) false, .cmp .leq (.o .sub .i64 (.w .i64 (.w .u32 (.w .i32 (.o .sub .u32 (.o .add .u32 (.o .add .u32 (.v 0) (.c 1)) (.c 9)) (.o .add .u32 (.v 0) (.c 1)))))) (.w .i64 (.o .sub .u32 (.o .add .u32 (.v 0) (.c 1)) (.o .add .u32 (.v 0) (.c 1))))) (.c 0) false, .cmp .eql (.o .add .u32 (.v 0) (.c 1)) (.o .add .u32 (.o .add .u32 (.v 0) (.c 1)) (.c 0)) true, .cmp .eql (.o .add .u32 (.o .add .u32 (.v 1) (.c 1)) (.v 2)) (.o .add .u32 (.v 1) (.c 1)) false, .cmp .lss (.o .sub .u32 (.o .add .u32 (.o .add .u32 (.v 1) (.c 1)) (.v 2)) (.o .add .u32 (.v 1) (.c 1))) (.c 100) true, .cmp .neq (.o .add .u32 (.o .add .u32 (.v 1) (.c 1)) (.v 2)) (.o .add .u32 (.v 1) (.c 1)) true, .cmp .neq (.v 2) (.c 0) true, .cmp .lss (.v 2) (.c 100) true]
set_option maxRecDepth 100000 in
theorem hostResets_h1 (iss irs off : Int) (r00 : 0 ≤ iss) (r01 : iss ≤ 4294967295) (r10 : 0 ≤ irs) (r11 : irs ≤ 4294967295) (r20 : 0 ≤ off) (r21 : off ≤ 4294967295) (hc : 0 < off ∧ off < 100) : ∀ f, f ∈ hostResets_f1 → f.holds (hostResets_i iss irs off) := by
  intro f hf
  simp only [hostResets_f1, List.mem_cons, List.not_mem_nil, or_false] at hf
  rcases hf with rfl | rfl | rfl | rfl | rfl | rfl | rfl | rfl <;> (simp only [Fact.holds, Sx.den, cmpI, opI, hostResets_i, IntKind.wrap_i64, IntKind.wrap_i32, IntKind.wrap_u64, IntKind.wrap_u32, IntKind.wrap_u16, IntKind.wrap_u8, Option.some.injEq, decide_eq_true_eq, decide_eq_false_iff_not, beq_iff_eq, beq_eq_false_iff_ne, bne_iff_ne, bne_eq_false_iff_eq, ne_eq, gt_iff_lt, ge_iff_le]; omega)
theorem hostResets_t1 (iss irs off : Int) (h : ∀ f, f ∈ hostResets_f1 → f.holds (hostResets_i iss irs off)) : @lawSym (hostResets_E iss irs off hostResets_f1 h) Try.prog 400 5 [.sx .u32 (.v 0), .sx .u32 (.v 1), .sx .u32 (.v 2)] = True := by kernel_rfl

def hostResets_f2 : List Fact := [.cmp .gtr (.c 0) (.w .i32 (.o .sub .u32 (.o .add .u32 (.o .add .u32 (.v 0) (.c 1)) (.c 9)) (.o .add .u32 (.v 0) (.c 1)))) false, .cmp .leq (.o .sub .i64 (.w .i64 (.w .u32 (.w .i32 (.o .sub .u32 (.o .add .u32 (.o .add .u32 (.v 0) (.c 1)) (.c 9)) (.o .add .u32 (.v 0) (.c 1)))))) (.w .i64 (.o .sub .u32 (.o .add .u32 (.v 0) (.c 1)) (.o .add .u32 (.v 0) (.c 1))))) (.c 0) false, .cmp .eql (.o .add .u32 (.v 0) (.c 1)) (.o .add .u32 (.o .add .u32 (.v 0) (.c 1)) (.c 0)) true, .cmp .eql (.o .add .u32 (.o .add .u32 (.v 1) (.c 1)) (.v 2)) (.o .add .u32 (.v 1) (.c 1)) false, .cmp .lss (.o .sub .u32 (.o .add .u32 (.o .add .u32 (.v 1) (.c 1)) (.v 2)) (.o .add .u32 (.v 1) (.c 1))) (.c 100) false, .cmp .neq (.v 2) (.c 0) true, .cmp .lss (.v 2) (.c 100) false]
set_option maxRecDepth 100000 in
theorem hostResets_h2 (iss irs off : Int) (r00 : 0 ≤ iss) (r01 : iss ≤ 4294967295) (r10 : 0 ≤ irs) (r11 : irs ≤ 4294967295) (r20 : 0 ≤ off) (r21 : off ≤ 4294967295) (hc : 100 ≤ off) : ∀ f, f ∈ hostResets_f2 → f.holds (hostResets_i iss irs off) := by
  intro f hf
  simp only [hostResets_f2, List.mem_cons, List.not_mem_nil, or_false] at hf
  rcases hf with rfl | rfl | rfl | rfl | rfl | rfl | rfl <;> (simp only [Fact.holds, Sx.den, cmpI, opI, hostResets_i, IntKind.wrap_i64, IntKind.wrap_i32, IntKind.wrap_u64, IntKind.wrap_u32, IntKind.wrap_u16, IntKind.wrap_u8, Option.some.injEq, decide_eq_true_eq, decide_eq_false_iff_not, beq_iff_eq, beq_eq_false_iff_ne, bne_iff_ne, bne_eq_false_iff_eq, ne_eq, gt_iff_lt, ge_iff_le]; omega)
theorem hostResets_t2 (iss irs off : Int) (h : ∀ f, f ∈ hostResets_f2 → f.holds (hostResets_i iss irs off)) : @lawSym (hostResets_E iss irs off hostResets_f2 h) Try.prog 400 5 [.sx .u32 (.v 0), .sx .u32 (.v 1), .sx .u32 (.v 2)] = True := by kernel_rfl

theorem hostResets_walk (W : World) (iss irs off : Int) (r00 : 0 ≤ iss) (r01 : iss ≤ 4294967295) (r10 : 0 ≤ irs) (r11 : irs ≤ 4294967295) (r20 : 0 ≤ off) (r21 : off ≤ 4294967295) : Calls Try.prog 5 #[.int .u32 iss, .int .u32 irs, .int .u32 off] W fun e W' => e = .returned (.bool true) ∧ Below W.heap.size W W' := by
  rcases (show off = 0 ∨ (0 < off ∧ off < 100) ∨ 100 ≤ off by omega) with hc | hc | hc
  · let E0 := hostResets_E iss irs off hostResets_f0 (hostResets_h0 iss irs off r00 r01 r10 r11 r20 r21 hc)
    exact @lawSym_calls E0 _ _ _ _ _ (hostResets_t0 iss irs off _) (.cons (@R.sx E0 _ .u32 (.v 0)) (.cons (@R.sx E0 _ .u32 (.v 1)) (.cons (@R.sx E0 _ .u32 (.v 2)) .nil))) W
  · let E0 := hostResets_E iss irs off hostResets_f1 (hostResets_h1 iss irs off r00 r01 r10 r11 r20 r21 hc)
    exact @lawSym_calls E0 _ _ _ _ _ (hostResets_t1 iss irs off _) (.cons (@R.sx E0 _ .u32 (.v 0)) (.cons (@R.sx E0 _ .u32 (.v 1)) (.cons (@R.sx E0 _ .u32 (.v 2)) .nil))) W
  · let E0 := hostResets_E iss irs off hostResets_f2 (hostResets_h2 iss irs off r00 r01 r10 r11 r20 r21 hc)
    exact @lawSym_calls E0 _ _ _ _ _ (hostResets_t2 iss irs off _) (.cons (@R.sx E0 _ .u32 (.v 0)) (.cons (@R.sx E0 _ .u32 (.v 1)) (.cons (@R.sx E0 _ .u32 (.v 2)) .nil))) W

set_option maxRecDepth 100000 in
theorem hostResets_open_u32 {H : Type} {enc : TypeId × Value → H} {W : World} {base : Nat} {sp : Nat → Bool} {held : Bool} {v : Value} {d : DataW H} {p : List MemPlace} {b0 : Nat} (o : Value.okWide Try.prog W .any b0 23 v) (h : DataW.Trod enc Try.prog W base sp held 23 v d p) :
    ∃ n : Int, v = .int .u32 n ∧ 0 ≤ n ∧ n ≤ 4294967295 := by
  obtain ⟨n, rfl, _, _, wn⟩ := open_int Try.underlying23 o h
  exact ⟨n, rfl, bounds_u32 wn⟩

set_option maxRecDepth 100000 in
theorem hostResets_typed {H : Type} (enc : TypeId × Value → H) (W : World) (base : Nat) {v0 v1 v2 : Value} {d0 d1 d2 : DataW H} {p0 p1 p2 : List MemPlace}
    (o0 : Value.okWide Try.prog W .any base 23 v0) (o1 : Value.okWide Try.prog W .any base 23 v1) (o2 : Value.okWide Try.prog W .any base 23 v2)
    (h0 : DataW.Trod enc Try.prog W 0 (fun _ => true) true 23 v0 d0 p0) (h1 : DataW.Trod enc Try.prog W 0 (fun _ => true) true 23 v1 d1 p1) (h2 : DataW.Trod enc Try.prog W 0 (fun _ => true) true 23 v2 d2 p2) :
    Calls Try.prog 5 #[v0, v1, v2] W fun e W' => e = .returned (.bool true) ∧ Below W.heap.size W W' := by
  obtain ⟨iss, rfl, a0, b0⟩ := hostResets_open_u32 o0 h0
  obtain ⟨irs, rfl, a1, b1⟩ := hostResets_open_u32 o1 h1
  obtain ⟨off, rfl, a2, b2⟩ := hostResets_open_u32 o2 h2
  exact hostResets_walk W iss irs off a0 b0 a1 b1 a2 b2
end Go.Proofs.Ytgaidloicmkdaaa
