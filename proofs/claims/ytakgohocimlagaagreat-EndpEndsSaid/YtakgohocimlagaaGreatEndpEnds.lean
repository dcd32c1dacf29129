/-
  The law EndpEnds: it returns true at any numbers and any segment, and leaves what was there: reckoned by the evaluator at letters (EvU), case by case. Condition: the numbers are in the ranges of their kinds.
-/
import Derived.Test.YtakgohocimlagaaGreatReasmL
import Derived.Test.YtakgohocimlagaaGreatMay
import Derived.Test.YtakgohocimlagaaGreatSegO
namespace Go.Proofs.YtakgohocimlagaaGreat
open Ev Go.RowKit Go.ChangeShapes Go.WideShapes Go.ChangeAt Go.Joins
set_option linter.unusedVariables false
set_option linter.unusedSimpArgs false

def endsI (iss irs off sp dp sq ak fl wn ug : Int) (n : Nat) : Int := match n with
  | 0 => iss
  | 1 => irs
  | 2 => off
  | 3 => sp
  | 4 => dp
  | 5 => sq
  | 6 => ak
  | 7 => fl
  | 8 => wn
  | 9 => ug
  | _ => 0
def endsV (A1 : Option Addr) (n1 k1 : Nat) (A2 : Option Addr) (n2 k2 : Nat) (n : Nat) : Value := match n with
  | 0 => .slice A1 n1 k1
  | _ => .slice A2 n2 k2
theorem endsVo (A1 : Option Addr) (n1 k1 : Nat) (A2 : Option Addr) (n2 k2 : Nat) (n : Nat) : (endsV A1 n1 k1 A2 n2 k2 n).cells = #[endsV A1 n1 k1 A2 n2 k2 n] ∧ (endsV A1 n1 k1 A2 n2 k2 n).oneCell' = true := by
  unfold endsV
  split <;> exact ⟨rfl, rfl⟩
abbrev endsE (W : World) (iss irs off sp dp sq ak fl wn ug : Int) (A1 : Option Addr) (n1 k1 : Nat) (A2 : Option Addr) (n2 k2 : Nat) (ft : List Fact) (h : ∀ f, f ∈ ft → f.holds (endsI iss irs off sp dp sq ak fl wn ug)) : Inhabited EnvT := ⟨⟨endsI iss irs off sp dp sq ak fl wn ug, endsV A1 n1 k1 A2 n2 k2, ft, h, endsVo A1 n1 k1 A2 n2 k2, W.heap.size, fun b => W.heap[b]?⟩⟩
def endsG : List AV := [.agg [.sx .u16 (.v 3), .sx .u16 (.v 4), .sx .u32 (.v 5), .sx .u32 (.v 6), .sx .u8 (.v 7), .sx .u16 (.v 8), .sx .u16 (.v 9), .ov 0, .ov 1]]
def endsX (m : Bool) : List (Nat × XK) := [(16, .tab [([], .bool true)]), (11, .tab [(endsG, .bool m)])]
/-- a world that holds the old blocks: what was told of them holds -/
theorem keeps_heap {W w : World} (ho : ∀ b, b < W.heap.size → w.heap[b]? = W.heap[b]?) (hb : W.heap.size ≤ w.heap.size) : Keeps [] W { W with heap := w.heap } := ⟨rfl, rfl, rfl, hb, fun j hj _ => ho j hj⟩
theorem OptsV.heap {W w : World} {v : Value} {l : List O} (h : OptsV W v l) (ho : ∀ b, b < W.heap.size → w.heap[b]? = W.heap[b]?) (hb : W.heap.size ≤ w.heap.size) : OptsV w v l := by
  have h' := h.keep0 (keeps_heap ho hb)
  exact h'
theorem BytesV.heap {W w : World} {v : Value} {l : List UInt8} (h : BytesV W v l) (ho : ∀ b, b < W.heap.size → w.heap[b]? = W.heap[b]?) (hb : W.heap.size ≤ w.heap.size) : BytesV w v l := by
  have h' := h.keep0 (keeps_heap ho hb)
  exact h'
set_option maxRecDepth 100000 in
theorem ends_good (W : World) (iss irs off sp dp sq ak fl wn ug : Int) (A1 : Option Addr) (n1 k1 : Nat) (A2 : Option Addr) (n2 k2 : Nat) (ft : List Fact) (h : ∀ f, f ∈ ft → f.holds (endsI iss irs off sp dp sq ak fl wn ug)) (l1 : List O) (l2 : List UInt8) (h1 : OptsV W (.slice A1 n1 k1) l1) (h2 : BytesV W (.slice A2 n2 k2) l2) (m : Bool) (hm : mayB l1 l2.length = m) :
    ∀ f k, xlk (endsX m) f = some k → @XGood (endsE W iss irs off sp dp sq ak fl wn ug A1 n1 k1 A2 n2 k2 ft h) Tryz.prog noG f k := by
  letI : Inhabited EnvT := endsE W iss irs off sp dp sq ak fl wn ug A1 n1 k1 A2 n2 k2 ft h
  intro f k hk
  unfold endsX at hk
  simp only [xlk] at hk
  split at hk
  · rename_i hb
    cases hk
    cases Nat.eq_of_beq_eq_true hb
    refine tab_good (enters_of Tryz.func16 (by kernel_rfl) rfl) fun a v hm ρ Vs w hR ho hsz => ?_
    simp only [List.mem_singleton, Prod.mk.injEq] at hm
    obtain ⟨rfl, rfl⟩ := hm
    exact tab_one (As := []) rfl (fun _ => .bool _) hR (wakes_any w)
  · split at hk
    · rename_i hb
      cases hk
      cases Nat.eq_of_beq_eq_true hb
      refine tab_good (enters_of Tryz.func11 (by kernel_rfl) rfl) fun a v hm2 ρ Vs w hR ho hsz => ?_
      simp only [List.mem_singleton, Prod.mk.injEq] at hm2
      obtain ⟨rfl, rfl⟩ := hm2
      refine tab_one (As := [segV ⟨sp, dp, sq, ak, fl, wn, ug, l1, l2⟩ (.slice A1 n1 k1) (.slice A2 n2 k2)]) rfl (fun _ => .bool _) hR ?_
      rw [← hm]
      exact (may_any w ⟨sp, dp, sq, ak, fl, wn, ug, l1, l2⟩ A1 A2 n1 k1 n2 k2 (h1.heap ho hsz) (h2.heap ho hsz)).mono fun e w' ⟨he, kk⟩ => ⟨he, kk.below (Nat.le_refl _) (by simp)⟩
    · cases hk

def endsFA : List Fact := [.cmp .eql (.o .add .u32 (.o .add .u32 (.v 1) (.c 1)) (.v 2)) (.o .add .u32 (.o .add .u32 (.v 1) (.c 1)) (.c 0)) false, .cmp .lss (.o .sub .u32 (.o .add .u32 (.o .add .u32 (.v 1) (.c 1)) (.v 2)) (.o .add .u32 (.o .add .u32 (.v 1) (.c 1)) (.c 0))) (.c 100) true, .cmp .eql (.o .add .u32 (.o .add .u32 (.v 1) (.c 1)) (.v 2)) (.o .add .u32 (.v 1) (.c 1)) false, .cmp .eql (.v 2) (.c 0) false, .cmp .geq (.v 2) (.c 100) false, .cmp .neq (.v 2) (.c 0) true]
set_option maxRecDepth 100000 in
theorem endsHA (iss irs off sp dp sq ak fl wn ug : Int) (i0 : 0 ≤ iss ∧ iss ≤ 4294967295) (i1 : 0 ≤ irs ∧ irs ≤ 4294967295) (i2 : 0 ≤ off ∧ off ≤ 4294967295) (hc : 0 < off ∧ off < 100) : ∀ f, f ∈ endsFA → f.holds (endsI iss irs off sp dp sq ak fl wn ug) := by
  intro f hf
  simp only [endsFA, List.mem_cons, List.not_mem_nil, or_false] at hf
  rcases hf with rfl | rfl | rfl | rfl | rfl | rfl <;> (simp only [Fact.holds, Sx.den, cmpI, opI, endsI, IntKind.wrap_i64, IntKind.wrap_i32, IntKind.wrap_u64, IntKind.wrap_u32, IntKind.wrap_u16, IntKind.wrap_u8, Option.some.injEq, decide_eq_true_eq, decide_eq_false_iff_not, beq_iff_eq, beq_eq_false_iff_ne, bne_iff_ne, bne_eq_false_iff_eq, ne_eq, gt_iff_lt, ge_iff_le]; omega)
theorem endsTA (W : World) (iss irs off sp dp sq ak fl wn ug : Int) (A1 : Option Addr) (n1 k1 : Nat) (A2 : Option Addr) (n2 k2 : Nat) (h : ∀ f, f ∈ endsFA → f.holds (endsI iss irs off sp dp sq ak fl wn ug)) : @lawSymX (endsE W iss irs off sp dp sq ak fl wn ug A1 n1 k1 A2 n2 k2 endsFA h) Tryz.prog (endsX true) 400 4 [.sx .u32 (.v 0), .sx .u32 (.v 1), .sx .u32 (.v 2), .agg [.sx .u16 (.v 3), .sx .u16 (.v 4), .sx .u32 (.v 5), .sx .u32 (.v 6), .sx .u8 (.v 7), .sx .u16 (.v 8), .sx .u16 (.v 9), .ov 0, .ov 1]] = True := by kernel_rfl

def endsFB : List Fact := [.cmp .eql (.o .add .u32 (.o .add .u32 (.v 1) (.c 1)) (.v 2)) (.o .add .u32 (.o .add .u32 (.v 1) (.c 1)) (.c 0)) false, .cmp .lss (.o .sub .u32 (.o .add .u32 (.o .add .u32 (.v 1) (.c 1)) (.v 2)) (.o .add .u32 (.o .add .u32 (.v 1) (.c 1)) (.c 0))) (.c 100) false, .cmp .eql (.o .add .u32 (.o .add .u32 (.v 1) (.c 1)) (.v 2)) (.o .add .u32 (.v 1) (.c 1)) false, .cmp .eql (.v 2) (.c 0) false, .cmp .gtr (.v 2) (.c 0) true, .cmp .lss (.v 2) (.c 100) false, .cmp .neq (.v 2) (.c 0) true]
set_option maxRecDepth 100000 in
theorem endsHB (iss irs off sp dp sq ak fl wn ug : Int) (i0 : 0 ≤ iss ∧ iss ≤ 4294967295) (i1 : 0 ≤ irs ∧ irs ≤ 4294967295) (i2 : 0 ≤ off ∧ off ≤ 4294967295) (hc : 100 ≤ off) : ∀ f, f ∈ endsFB → f.holds (endsI iss irs off sp dp sq ak fl wn ug) := by
  intro f hf
  simp only [endsFB, List.mem_cons, List.not_mem_nil, or_false] at hf
  rcases hf with rfl | rfl | rfl | rfl | rfl | rfl | rfl <;> (simp only [Fact.holds, Sx.den, cmpI, opI, endsI, IntKind.wrap_i64, IntKind.wrap_i32, IntKind.wrap_u64, IntKind.wrap_u32, IntKind.wrap_u16, IntKind.wrap_u8, Option.some.injEq, decide_eq_true_eq, decide_eq_false_iff_not, beq_iff_eq, beq_eq_false_iff_ne, bne_iff_ne, bne_eq_false_iff_eq, ne_eq, gt_iff_lt, ge_iff_le]; omega)
theorem endsTB (W : World) (iss irs off sp dp sq ak fl wn ug : Int) (A1 : Option Addr) (n1 k1 : Nat) (A2 : Option Addr) (n2 k2 : Nat) (h : ∀ f, f ∈ endsFB → f.holds (endsI iss irs off sp dp sq ak fl wn ug)) : @lawSymX (endsE W iss irs off sp dp sq ak fl wn ug A1 n1 k1 A2 n2 k2 endsFB h) Tryz.prog (endsX true) 400 4 [.sx .u32 (.v 0), .sx .u32 (.v 1), .sx .u32 (.v 2), .agg [.sx .u16 (.v 3), .sx .u16 (.v 4), .sx .u32 (.v 5), .sx .u32 (.v 6), .sx .u8 (.v 7), .sx .u16 (.v 8), .sx .u16 (.v 9), .ov 0, .ov 1]] = True := by kernel_rfl

def endsFC : List Fact := [.cmp .eql (.o .add .u32 (.o .add .u32 (.v 1) (.c 1)) (.v 2)) (.o .add .u32 (.o .add .u32 (.v 1) (.c 1)) (.c 0)) true, .cmp .eql (.o .add .u32 (.o .add .u32 (.v 1) (.c 1)) (.v 2)) (.o .add .u32 (.v 1) (.c 1)) true, .cmp .eql (.v 2) (.c 0) true, .cmp .gtr (.v 2) (.c 0) false, .cmp .neq (.v 2) (.c 0) false]
set_option maxRecDepth 100000 in
theorem endsHC (iss irs off sp dp sq ak fl wn ug : Int) (i0 : 0 ≤ iss ∧ iss ≤ 4294967295) (i1 : 0 ≤ irs ∧ irs ≤ 4294967295) (i2 : 0 ≤ off ∧ off ≤ 4294967295) (hc : off = 0) : ∀ f, f ∈ endsFC → f.holds (endsI iss irs off sp dp sq ak fl wn ug) := by
  intro f hf
  simp only [endsFC, List.mem_cons, List.not_mem_nil, or_false] at hf
  rcases hf with rfl | rfl | rfl | rfl | rfl <;> (simp only [Fact.holds, Sx.den, cmpI, opI, endsI, IntKind.wrap_i64, IntKind.wrap_i32, IntKind.wrap_u64, IntKind.wrap_u32, IntKind.wrap_u16, IntKind.wrap_u8, Option.some.injEq, decide_eq_true_eq, decide_eq_false_iff_not, beq_iff_eq, beq_eq_false_iff_ne, bne_iff_ne, bne_eq_false_iff_eq, ne_eq, gt_iff_lt, ge_iff_le]; omega)
theorem endsTC (W : World) (iss irs off sp dp sq ak fl wn ug : Int) (A1 : Option Addr) (n1 k1 : Nat) (A2 : Option Addr) (n2 k2 : Nat) (h : ∀ f, f ∈ endsFC → f.holds (endsI iss irs off sp dp sq ak fl wn ug)) : @lawSymX (endsE W iss irs off sp dp sq ak fl wn ug A1 n1 k1 A2 n2 k2 endsFC h) Tryz.prog (endsX true) 400 4 [.sx .u32 (.v 0), .sx .u32 (.v 1), .sx .u32 (.v 2), .agg [.sx .u16 (.v 3), .sx .u16 (.v 4), .sx .u32 (.v 5), .sx .u32 (.v 6), .sx .u8 (.v 7), .sx .u16 (.v 8), .sx .u16 (.v 9), .ov 0, .ov 1]] = True := by kernel_rfl

def endsFD : List Fact := [.cmp .eql (.o .add .u32 (.o .add .u32 (.v 1) (.c 1)) (.v 2)) (.o .add .u32 (.o .add .u32 (.v 1) (.c 1)) (.c 0)) true, .cmp .eql (.o .add .u32 (.o .add .u32 (.v 1) (.c 1)) (.v 2)) (.o .add .u32 (.v 1) (.c 1)) true, .cmp .eql (.v 2) (.c 0) true, .cmp .gtr (.v 2) (.c 0) false, .cmp .neq (.v 2) (.c 0) false]
set_option maxRecDepth 100000 in
theorem endsHD (iss irs off sp dp sq ak fl wn ug : Int) (i0 : 0 ≤ iss ∧ iss ≤ 4294967295) (i1 : 0 ≤ irs ∧ irs ≤ 4294967295) (i2 : 0 ≤ off ∧ off ≤ 4294967295) (hc : off = 0) : ∀ f, f ∈ endsFD → f.holds (endsI iss irs off sp dp sq ak fl wn ug) := by
  intro f hf
  simp only [endsFD, List.mem_cons, List.not_mem_nil, or_false] at hf
  rcases hf with rfl | rfl | rfl | rfl | rfl <;> (simp only [Fact.holds, Sx.den, cmpI, opI, endsI, IntKind.wrap_i64, IntKind.wrap_i32, IntKind.wrap_u64, IntKind.wrap_u32, IntKind.wrap_u16, IntKind.wrap_u8, Option.some.injEq, decide_eq_true_eq, decide_eq_false_iff_not, beq_iff_eq, beq_eq_false_iff_ne, bne_iff_ne, bne_eq_false_iff_eq, ne_eq, gt_iff_lt, ge_iff_le]; omega)
theorem endsTD (W : World) (iss irs off sp dp sq ak fl wn ug : Int) (A1 : Option Addr) (n1 k1 : Nat) (A2 : Option Addr) (n2 k2 : Nat) (h : ∀ f, f ∈ endsFD → f.holds (endsI iss irs off sp dp sq ak fl wn ug)) : @lawSymX (endsE W iss irs off sp dp sq ak fl wn ug A1 n1 k1 A2 n2 k2 endsFD h) Tryz.prog (endsX false) 400 4 [.sx .u32 (.v 0), .sx .u32 (.v 1), .sx .u32 (.v 2), .agg [.sx .u16 (.v 3), .sx .u16 (.v 4), .sx .u32 (.v 5), .sx .u32 (.v 6), .sx .u8 (.v 7), .sx .u16 (.v 8), .sx .u16 (.v 9), .ov 0, .ov 1]] = True := by kernel_rfl

theorem endsTAf (W : World) (iss irs off sp dp sq ak fl wn ug : Int) (A1 : Option Addr) (n1 k1 : Nat) (A2 : Option Addr) (n2 k2 : Nat) (h : ∀ f, f ∈ endsFA → f.holds (endsI iss irs off sp dp sq ak fl wn ug)) : @lawSymX (endsE W iss irs off sp dp sq ak fl wn ug A1 n1 k1 A2 n2 k2 endsFA h) Tryz.prog (endsX false) 400 4 [.sx .u32 (.v 0), .sx .u32 (.v 1), .sx .u32 (.v 2), .agg [.sx .u16 (.v 3), .sx .u16 (.v 4), .sx .u32 (.v 5), .sx .u32 (.v 6), .sx .u8 (.v 7), .sx .u16 (.v 8), .sx .u16 (.v 9), .ov 0, .ov 1]] = True := by kernel_rfl
theorem endsTBf (W : World) (iss irs off sp dp sq ak fl wn ug : Int) (A1 : Option Addr) (n1 k1 : Nat) (A2 : Option Addr) (n2 k2 : Nat) (h : ∀ f, f ∈ endsFB → f.holds (endsI iss irs off sp dp sq ak fl wn ug)) : @lawSymX (endsE W iss irs off sp dp sq ak fl wn ug A1 n1 k1 A2 n2 k2 endsFB h) Tryz.prog (endsX false) 400 4 [.sx .u32 (.v 0), .sx .u32 (.v 1), .sx .u32 (.v 2), .agg [.sx .u16 (.v 3), .sx .u16 (.v 4), .sx .u32 (.v 5), .sx .u32 (.v 6), .sx .u8 (.v 7), .sx .u16 (.v 8), .sx .u16 (.v 9), .ov 0, .ov 1]] = True := by kernel_rfl

set_option maxRecDepth 100000 in
theorem ends_walk (W : World) (iss irs off sp dp sq ak fl wn ug : Int) (i0 : 0 ≤ iss ∧ iss ≤ 4294967295) (i1 : 0 ≤ irs ∧ irs ≤ 4294967295) (i2 : 0 ≤ off ∧ off ≤ 4294967295) (A1 : Option Addr) (n1 k1 : Nat) (A2 : Option Addr) (n2 k2 : Nat) (l1 : List O) (l2 : List UInt8) (h1 : OptsV W (.slice A1 n1 k1) l1) (h2 : BytesV W (.slice A2 n2 k2) l2) :
    Calls Tryz.prog 4 #[.int .u32 iss, .int .u32 irs, .int .u32 off, .agg #[.int .u16 sp, .int .u16 dp, .int .u32 sq, .int .u32 ak, .int .u8 fl, .int .u16 wn, .int .u16 ug, .slice A1 n1 k1, .slice A2 n2 k2]] W fun e W' => e = .returned (.bool true) ∧ Below W.heap.size W W' := by
  obtain ⟨mm, hmm⟩ : ∃ mm, mayB l1 l2.length = mm := ⟨_, rfl⟩
  rcases (show off = 0 ∨ (0 < off ∧ off < 100) ∨ 100 ≤ off by omega) with hc | hc | hc
  · cases mm
    · letI : Inhabited EnvT := endsE W iss irs off sp dp sq ak fl wn ug A1 n1 k1 A2 n2 k2 endsFD (endsHD iss irs off sp dp sq ak fl wn ug i0 i1 i2 hc)
      exact lawSymX_calls (Vs := [.int .u32 iss, .int .u32 irs, .int .u32 off, .agg ⟨[.int .u16 sp, .int .u16 dp, .int .u32 sq, .int .u32 ak, .int .u8 fl, .int .u16 wn, .int .u16 ug, .slice A1 n1 k1, .slice A2 n2 k2]⟩]) (ends_good W iss irs off sp dp sq ak fl wn ug A1 n1 k1 A2 n2 k2 endsFD (endsHD iss irs off sp dp sq ak fl wn ug i0 i1 i2 hc) l1 l2 h1 h2 false hmm) (endsTD W iss irs off sp dp sq ak fl wn ug A1 n1 k1 A2 n2 k2 (endsHD iss irs off sp dp sq ak fl wn ug i0 i1 i2 hc)) (.cons (.sx .u32 (.v 0)) (.cons (.sx .u32 (.v 1)) (.cons (.sx .u32 (.v 2)) (.cons (.agg (.cons (.sx .u16 (.v 3)) (.cons (.sx .u16 (.v 4)) (.cons (.sx .u32 (.v 5)) (.cons (.sx .u32 (.v 6)) (.cons (.sx .u8 (.v 7)) (.cons (.sx .u16 (.v 8)) (.cons (.sx .u16 (.v 9)) (.cons (.ov 0) (.cons (.ov 1) .nil)))))))))) .nil)))) W (fun b _ => rfl) (Nat.le_refl _)
    · letI : Inhabited EnvT := endsE W iss irs off sp dp sq ak fl wn ug A1 n1 k1 A2 n2 k2 endsFC (endsHC iss irs off sp dp sq ak fl wn ug i0 i1 i2 hc)
      exact lawSymX_calls (Vs := [.int .u32 iss, .int .u32 irs, .int .u32 off, .agg ⟨[.int .u16 sp, .int .u16 dp, .int .u32 sq, .int .u32 ak, .int .u8 fl, .int .u16 wn, .int .u16 ug, .slice A1 n1 k1, .slice A2 n2 k2]⟩]) (ends_good W iss irs off sp dp sq ak fl wn ug A1 n1 k1 A2 n2 k2 endsFC (endsHC iss irs off sp dp sq ak fl wn ug i0 i1 i2 hc) l1 l2 h1 h2 true hmm) (endsTC W iss irs off sp dp sq ak fl wn ug A1 n1 k1 A2 n2 k2 (endsHC iss irs off sp dp sq ak fl wn ug i0 i1 i2 hc)) (.cons (.sx .u32 (.v 0)) (.cons (.sx .u32 (.v 1)) (.cons (.sx .u32 (.v 2)) (.cons (.agg (.cons (.sx .u16 (.v 3)) (.cons (.sx .u16 (.v 4)) (.cons (.sx .u32 (.v 5)) (.cons (.sx .u32 (.v 6)) (.cons (.sx .u8 (.v 7)) (.cons (.sx .u16 (.v 8)) (.cons (.sx .u16 (.v 9)) (.cons (.ov 0) (.cons (.ov 1) .nil)))))))))) .nil)))) W (fun b _ => rfl) (Nat.le_refl _)
  · cases mm
    · letI : Inhabited EnvT := endsE W iss irs off sp dp sq ak fl wn ug A1 n1 k1 A2 n2 k2 endsFA (endsHA iss irs off sp dp sq ak fl wn ug i0 i1 i2 hc)
      exact lawSymX_calls (Vs := [.int .u32 iss, .int .u32 irs, .int .u32 off, .agg ⟨[.int .u16 sp, .int .u16 dp, .int .u32 sq, .int .u32 ak, .int .u8 fl, .int .u16 wn, .int .u16 ug, .slice A1 n1 k1, .slice A2 n2 k2]⟩]) (ends_good W iss irs off sp dp sq ak fl wn ug A1 n1 k1 A2 n2 k2 endsFA (endsHA iss irs off sp dp sq ak fl wn ug i0 i1 i2 hc) l1 l2 h1 h2 false hmm) (endsTAf W iss irs off sp dp sq ak fl wn ug A1 n1 k1 A2 n2 k2 (endsHA iss irs off sp dp sq ak fl wn ug i0 i1 i2 hc)) (.cons (.sx .u32 (.v 0)) (.cons (.sx .u32 (.v 1)) (.cons (.sx .u32 (.v 2)) (.cons (.agg (.cons (.sx .u16 (.v 3)) (.cons (.sx .u16 (.v 4)) (.cons (.sx .u32 (.v 5)) (.cons (.sx .u32 (.v 6)) (.cons (.sx .u8 (.v 7)) (.cons (.sx .u16 (.v 8)) (.cons (.sx .u16 (.v 9)) (.cons (.ov 0) (.cons (.ov 1) .nil)))))))))) .nil)))) W (fun b _ => rfl) (Nat.le_refl _)
    · letI : Inhabited EnvT := endsE W iss irs off sp dp sq ak fl wn ug A1 n1 k1 A2 n2 k2 endsFA (endsHA iss irs off sp dp sq ak fl wn ug i0 i1 i2 hc)
      exact lawSymX_calls (Vs := [.int .u32 iss, .int .u32 irs, .int .u32 off, .agg ⟨[.int .u16 sp, .int .u16 dp, .int .u32 sq, .int .u32 ak, .int .u8 fl, .int .u16 wn, .int .u16 ug, .slice A1 n1 k1, .slice A2 n2 k2]⟩]) (ends_good W iss irs off sp dp sq ak fl wn ug A1 n1 k1 A2 n2 k2 endsFA (endsHA iss irs off sp dp sq ak fl wn ug i0 i1 i2 hc) l1 l2 h1 h2 true hmm) (endsTA W iss irs off sp dp sq ak fl wn ug A1 n1 k1 A2 n2 k2 (endsHA iss irs off sp dp sq ak fl wn ug i0 i1 i2 hc)) (.cons (.sx .u32 (.v 0)) (.cons (.sx .u32 (.v 1)) (.cons (.sx .u32 (.v 2)) (.cons (.agg (.cons (.sx .u16 (.v 3)) (.cons (.sx .u16 (.v 4)) (.cons (.sx .u32 (.v 5)) (.cons (.sx .u32 (.v 6)) (.cons (.sx .u8 (.v 7)) (.cons (.sx .u16 (.v 8)) (.cons (.sx .u16 (.v 9)) (.cons (.ov 0) (.cons (.ov 1) .nil)))))))))) .nil)))) W (fun b _ => rfl) (Nat.le_refl _)
  · cases mm
    · letI : Inhabited EnvT := endsE W iss irs off sp dp sq ak fl wn ug A1 n1 k1 A2 n2 k2 endsFB (endsHB iss irs off sp dp sq ak fl wn ug i0 i1 i2 hc)
      exact lawSymX_calls (Vs := [.int .u32 iss, .int .u32 irs, .int .u32 off, .agg ⟨[.int .u16 sp, .int .u16 dp, .int .u32 sq, .int .u32 ak, .int .u8 fl, .int .u16 wn, .int .u16 ug, .slice A1 n1 k1, .slice A2 n2 k2]⟩]) (ends_good W iss irs off sp dp sq ak fl wn ug A1 n1 k1 A2 n2 k2 endsFB (endsHB iss irs off sp dp sq ak fl wn ug i0 i1 i2 hc) l1 l2 h1 h2 false hmm) (endsTBf W iss irs off sp dp sq ak fl wn ug A1 n1 k1 A2 n2 k2 (endsHB iss irs off sp dp sq ak fl wn ug i0 i1 i2 hc)) (.cons (.sx .u32 (.v 0)) (.cons (.sx .u32 (.v 1)) (.cons (.sx .u32 (.v 2)) (.cons (.agg (.cons (.sx .u16 (.v 3)) (.cons (.sx .u16 (.v 4)) (.cons (.sx .u32 (.v 5)) (.cons (.sx .u32 (.v 6)) (.cons (.sx .u8 (.v 7)) (.cons (.sx .u16 (.v 8)) (.cons (.sx .u16 (.v 9)) (.cons (.ov 0) (.cons (.ov 1) .nil)))))))))) .nil)))) W (fun b _ => rfl) (Nat.le_refl _)
    · letI : Inhabited EnvT := endsE W iss irs off sp dp sq ak fl wn ug A1 n1 k1 A2 n2 k2 endsFB (endsHB iss irs off sp dp sq ak fl wn ug i0 i1 i2 hc)
      exact lawSymX_calls (Vs := [.int .u32 iss, .int .u32 irs, .int .u32 off, .agg ⟨[.int .u16 sp, .int .u16 dp, .int .u32 sq, .int .u32 ak, .int .u8 fl, .int .u16 wn, .int .u16 ug, .slice A1 n1 k1, .slice A2 n2 k2]⟩]) (ends_good W iss irs off sp dp sq ak fl wn ug A1 n1 k1 A2 n2 k2 endsFB (endsHB iss irs off sp dp sq ak fl wn ug i0 i1 i2 hc) l1 l2 h1 h2 true hmm) (endsTB W iss irs off sp dp sq ak fl wn ug A1 n1 k1 A2 n2 k2 (endsHB iss irs off sp dp sq ak fl wn ug i0 i1 i2 hc)) (.cons (.sx .u32 (.v 0)) (.cons (.sx .u32 (.v 1)) (.cons (.sx .u32 (.v 2)) (.cons (.agg (.cons (.sx .u16 (.v 3)) (.cons (.sx .u16 (.v 4)) (.cons (.sx .u32 (.v 5)) (.cons (.sx .u32 (.v 6)) (.cons (.sx .u8 (.v 7)) (.cons (.sx .u16 (.v 8)) (.cons (.sx .u16 (.v 9)) (.cons (.ov 0) (.cons (.ov 1) .nil)))))))))) .nil)))) W (fun b _ => rfl) (Nat.le_refl _)

set_option maxRecDepth 100000 in
theorem open_u32E {H : Type} {enc : TypeId × Value → H} {W : World} {base : Nat} {sp : Nat → Bool} {held : Bool} {v : Value} {d : DataW H} {p : List MemPlace} {b0 : Nat} (o : Value.okWide Tryz.prog W .any b0 22 v) (h : DataW.Trod enc Tryz.prog W base sp held 22 v d p) :
    ∃ n : Int, v = .int .u32 n ∧ 0 ≤ n ∧ n ≤ 4294967295 := by
  obtain ⟨n, rfl, _, _, wn⟩ := open_int Tryz.underlying22 o h
  exact ⟨n, rfl, bounds_u32 wn⟩
set_option maxRecDepth 100000 in
theorem endpEnds_typed {H : Type} (enc : TypeId × Value → H) (W : World) (base : Nat) {v0 v1 v2 v3 : Value} {d0 d1 d2 d3 : DataW H} {p0 p1 p2 p3 : List MemPlace}
    (o0 : Value.okWide Tryz.prog W .any base 22 v0) (o1 : Value.okWide Tryz.prog W .any base 22 v1) (o2 : Value.okWide Tryz.prog W .any base 22 v2) (o3 : Value.okWide Tryz.prog W .any base 39 v3)
    (h0 : DataW.Trod enc Tryz.prog W 0 (fun _ => true) true 22 v0 d0 p0) (h1 : DataW.Trod enc Tryz.prog W 0 (fun _ => true) true 22 v1 d1 p1) (h2 : DataW.Trod enc Tryz.prog W 0 (fun _ => true) true 22 v2 d2 p2) (h3 : DataW.Trod enc Tryz.prog W 0 (fun _ => true) true 39 v3 d3 p3) :
    Calls Tryz.prog 4 #[v0, v1, v2, v3] W fun e W' => e = .returned (.bool true) ∧ Below W.heap.size W W' := by
  obtain ⟨iss, rfl, a0, b0⟩ := open_u32E o0 h0
  obtain ⟨irs, rfl, a1, b1⟩ := open_u32E o1 h1
  obtain ⟨off, rfl, a2, b2⟩ := open_u32E o2 h2
  obtain ⟨sp, dp, sq, ak, fl, wn, ug, A1, n1, k1, l1, A2, n2, k2, l2, rfl, _, ho, hd⟩ := open_seg o3 h3
  exact ends_walk W iss irs off sp dp sq ak fl wn ug ⟨a0, b0⟩ ⟨a1, b1⟩ ⟨a2, b2⟩ A1 n1 k1 A2 n2 k2 l1 l2 ho hd
end Go.Proofs.YtakgohocimlagaaGreat
