/-
  HostOptions, second part: letters, tables of known calls, facts. No condition.
-/
import Derived.Test.YtgaidloicmkdaaaHoA
import Derived.Shelf.Abstract
namespace Go.Proofs.Ytgaidloicmkdaaa
open Ev Go.RowKit Go.Shelf
set_option linter.unusedVariables false
set_option linter.unusedSimpArgs false

theorem hwakes_true : lawTrue Try.prog 400 9 = True := by kernel_rfl
theorem hwakes_any (W : World) : Calls Try.prog 9 #[] W fun e W' => e = .returned (.bool true) ∧ Below W.heap.size W W' := lawTrue_calls hwakes_true W
def hoI (s t : SU) (sp dp sq ak fl wn ug mv sv : Int) (n : Nat) : Int := match n with
  | 0 => s.lp
  | 1 => s.iss
  | 2 => s.mss
  | 3 => s.scale
  | 4 => s.room
  | 5 => s.rto
  | 6 => s.tries
  | 7 => t.lp
  | 8 => t.iss
  | 9 => t.mss
  | 10 => t.scale
  | 11 => t.room
  | 12 => t.rto
  | 13 => t.tries
  | 14 => sp
  | 15 => dp
  | 16 => sq
  | 17 => ak
  | 18 => fl
  | 19 => wn
  | 20 => ug
  | 21 => mv
  | 22 => sv
  | _ => 0
def hoV (A1 : Option Addr) (n1 k1 : Nat) (A2 : Option Addr) (n2 k2 : Nat) (n : Nat) : Value := match n with
  | 0 => .slice A1 n1 k1
  | _ => .slice A2 n2 k2
theorem hoVo (A1 : Option Addr) (n1 k1 : Nat) (A2 : Option Addr) (n2 k2 : Nat) (n : Nat) : (hoV A1 n1 k1 A2 n2 k2 n).cells = #[hoV A1 n1 k1 A2 n2 k2 n] ∧ (hoV A1 n1 k1 A2 n2 k2 n).oneCell' = true := by
  unfold hoV
  split <;> exact ⟨rfl, rfl⟩
abbrev hoE (W : World) (s t : SU) (sp dp sq ak fl wn ug mv sv : Int) (A1 : Option Addr) (n1 k1 : Nat) (A2 : Option Addr) (n2 k2 : Nat) (ft : List Fact) (h : ∀ f, f ∈ ft → f.holds (hoI s t sp dp sq ak fl wn ug mv sv)) : Inhabited EnvT := ⟨⟨hoI s t sp dp sq ak fl wn ug mv sv, hoV A1 n1 k1 A2 n2 k2, ft, h, hoVo A1 n1 k1 A2 n2 k2, W.heap.size, fun b => W.heap[b]?⟩⟩
def hoS (a : Bool) : List AV := [.sx .u16 (.v 0), .sx .u32 (.v 1), .sx .u16 (.v 2), .sx .i64 (.v 3), .bool a, .sx .i64 (.v 4), .sx .u64 (.v 5), .sx .i64 (.v 6)]
def hoT (b : Bool) : List AV := [.sx .u16 (.v 7), .sx .u32 (.v 8), .sx .u16 (.v 9), .sx .i64 (.v 10), .bool b, .sx .i64 (.v 11), .sx .u64 (.v 12), .sx .i64 (.v 13)]
def hoG : List AV := [.sx .u16 (.v 14), .sx .u16 (.v 15), .sx .u32 (.v 16), .sx .u32 (.v 17), .sx .u8 (.v 18), .sx .u16 (.v 19), .sx .u16 (.v 20), .ov 0, .ov 1]
def hoXp (a b ms mt : Bool) : List (Nat × XK) := [(9, .tab [([], .bool true)]), (27, .tab [([.agg (hoS a)], .bool ms), ([.agg (hoT b)], .bool mt)])]
def hoXf (b mg : Bool) : List (Nat × XK) := [(9, .tab [([], .bool true)]), (13, .tab [([.agg hoG], .bool mg)]), (27, .tab [([.agg (hoT b)], .bool true)])]
def hoXs (b mb sb kb : Bool) : List (Nat × XK) := [(9, .tab [([], .bool true)]), (13, .tab [([.agg hoG], .bool true)]), (27, .tab [([.agg (hoT b)], .bool true)]), (72, .tab [([.ov 0], .tup [.sx .u16 (.v 21), .bool mb])]), (73, .tab [([.ov 0], .tup [.sx .i64 (.v 22), .bool sb])]), (74, .tab [([.ov 0], .bool kb)])]
theorem keeps_heap {W w : World} (ho : ∀ b, b < W.heap.size → w.heap[b]? = W.heap[b]?) (hb : W.heap.size ≤ w.heap.size) : Keeps [] W { W with heap := w.heap } := ⟨rfl, rfl, rfl, hb, fun j hj _ => ho j hj⟩
theorem OptsV.heap {W w : World} {v : Value} {l : List O} (h : OptsV W v l) (ho : ∀ b, b < W.heap.size → w.heap[b]? = W.heap[b]?) (hb : W.heap.size ≤ w.heap.size) : OptsV w v l := by
  have h' := h.keep0 (keeps_heap ho hb)
  exact h'
theorem BytesV.heap {W w : World} {v : Value} {l : List UInt8} (h : BytesV W v l) (ho : ∀ b, b < W.heap.size → w.heap[b]? = W.heap[b]?) (hb : W.heap.size ≤ w.heap.size) : BytesV w v l := by
  have h' := h.keep0 (keeps_heap ho hb)
  exact h'
set_option maxRecDepth 100000 in
set_option maxHeartbeats 1000000 in
theorem hoXp_good (W : World) (s t : SU) (sp dp sq ak fl wn ug mv sv : Int) (A1 : Option Addr) (n1 k1 : Nat) (A2 : Option Addr) (n2 k2 : Nat) (ft : List Fact) (h : ∀ f, f ∈ ft → f.holds (hoI s t sp dp sq ak fl wn ug mv sv)) (l1 : List O) (l2 : List UInt8) (h1 : OptsV W (.slice A1 n1 k1) l1) (h2 : BytesV W (.slice A2 n2 k2) l2)
    (a b ms mt : Bool) (ea : s.sack = a) (eb : t.sack = b) (e1 : mayS s = ms) (e2 : mayS t = mt) :
    ∀ f k, xlk (hoXp a b ms mt ) f = some k → @XGood (hoE W s t sp dp sq ak fl wn ug mv sv A1 n1 k1 A2 n2 k2 ft h) Try.prog noG f k := by
  letI : Inhabited EnvT := hoE W s t sp dp sq ak fl wn ug mv sv A1 n1 k1 A2 n2 k2 ft h
  intro f k hk
  unfold hoXp at hk
  simp only [xlk] at hk
  split at hk
  · rename_i hb
    cases hk
    cases Nat.eq_of_beq_eq_true hb
    refine tab_good (enters_of Try.func9 (by kernel_rfl) rfl) fun x v hm ρ Vs w hR ho hsz => ?_
    simp only [List.mem_singleton, Prod.mk.injEq] at hm
    obtain ⟨rfl, rfl⟩ := hm
    exact tab_one (As := []) rfl (fun _ => .bool _) hR (hwakes_any w)
  split at hk
  · rename_i hb
    cases hk
    cases Nat.eq_of_beq_eq_true hb
    refine tab_good (enters_of Try.func27 (by kernel_rfl) rfl) fun x v hm ρ Vs w hR ho hsz => ?_
    simp only [List.mem_cons, List.not_mem_nil, or_false, Prod.mk.injEq] at hm
    rcases hm with ⟨rfl, rfl⟩ | ⟨rfl, rfl⟩
    · refine tab_one (As := [suV s]) (by rw [← ea]; rfl) (fun _ => .bool _) hR ?_
      rw [← e1]
      exact (may_all w s).mono fun e w' ⟨he, kk⟩ => ⟨he, kk.below (Nat.le_refl _) (by simp)⟩
    · refine tab_one (As := [suV t]) (by rw [← eb]; rfl) (fun _ => .bool _) hR ?_
      rw [← e2]
      exact (may_all w t).mono fun e w' ⟨he, kk⟩ => ⟨he, kk.below (Nat.le_refl _) (by simp)⟩
  · cases hk
set_option maxRecDepth 100000 in
set_option maxHeartbeats 1000000 in
theorem hoXf_good (W : World) (s t : SU) (sp dp sq ak fl wn ug mv sv : Int) (A1 : Option Addr) (n1 k1 : Nat) (A2 : Option Addr) (n2 k2 : Nat) (ft : List Fact) (h : ∀ f, f ∈ ft → f.holds (hoI s t sp dp sq ak fl wn ug mv sv)) (l1 : List O) (l2 : List UInt8) (h1 : OptsV W (.slice A1 n1 k1) l1) (h2 : BytesV W (.slice A2 n2 k2) l2)
    (b mg : Bool) (eb : t.sack = b) (e2 : mayS t = true) (e3 : mayB l1 l2.length = mg) :
    ∀ f k, xlk (hoXf b mg ) f = some k → @XGood (hoE W s t sp dp sq ak fl wn ug mv sv A1 n1 k1 A2 n2 k2 ft h) Try.prog noG f k := by
  letI : Inhabited EnvT := hoE W s t sp dp sq ak fl wn ug mv sv A1 n1 k1 A2 n2 k2 ft h
  intro f k hk
  unfold hoXf at hk
  simp only [xlk] at hk
  split at hk
  · rename_i hb
    cases hk
    cases Nat.eq_of_beq_eq_true hb
    refine tab_good (enters_of Try.func9 (by kernel_rfl) rfl) fun x v hm ρ Vs w hR ho hsz => ?_
    simp only [List.mem_singleton, Prod.mk.injEq] at hm
    obtain ⟨rfl, rfl⟩ := hm
    exact tab_one (As := []) rfl (fun _ => .bool _) hR (hwakes_any w)
  split at hk
  · rename_i hb
    cases hk
    cases Nat.eq_of_beq_eq_true hb
    refine tab_good (enters_of Try.func13 (by kernel_rfl) rfl) fun x v hm ρ Vs w hR ho hsz => ?_
    simp only [List.mem_singleton, Prod.mk.injEq] at hm
    obtain ⟨rfl, rfl⟩ := hm
    refine tab_one (As := [segV ⟨sp, dp, sq, ak, fl, wn, ug, l1, l2⟩ (.slice A1 n1 k1) (.slice A2 n2 k2)]) rfl (fun _ => .bool _) hR ?_
    rw [← e3]
    exact (may_any w ⟨sp, dp, sq, ak, fl, wn, ug, l1, l2⟩ A1 A2 n1 k1 n2 k2 (h1.heap ho hsz) (h2.heap ho hsz)).mono fun e w' ⟨he, kk⟩ => ⟨he, kk.below (Nat.le_refl _) (by simp)⟩
  split at hk
  · rename_i hb
    cases hk
    cases Nat.eq_of_beq_eq_true hb
    refine tab_good (enters_of Try.func27 (by kernel_rfl) rfl) fun x v hm ρ Vs w hR ho hsz => ?_
    simp only [List.mem_singleton, Prod.mk.injEq] at hm
    obtain ⟨rfl, rfl⟩ := hm
    refine tab_one (As := [suV t]) (by rw [← eb]; rfl) (fun _ => .bool _) hR ?_
    rw [← e2]
    exact (may_all w t).mono fun e w' ⟨he, kk⟩ => ⟨he, kk.below (Nat.le_refl _) (by simp)⟩
  · cases hk
set_option maxRecDepth 100000 in
set_option maxHeartbeats 1000000 in
theorem hoXs_good (W : World) (s t : SU) (sp dp sq ak fl wn ug mv sv : Int) (A1 : Option Addr) (n1 k1 : Nat) (A2 : Option Addr) (n2 k2 : Nat) (ft : List Fact) (h : ∀ f, f ∈ ft → f.holds (hoI s t sp dp sq ak fl wn ug mv sv)) (l1 : List O) (l2 : List UInt8) (h1 : OptsV W (.slice A1 n1 k1) l1) (h2 : BytesV W (.slice A2 n2 k2) l2)
    (b mb sb kb : Bool) (eb : t.sack = b) (e2 : mayS t = true) (e3 : mayB l1 l2.length = true) (e4 : mssI (findO l1 2 2) = (mv, mb)) (e5 : scaleI (findO l1 3 1) = (sv, sb)) (e6 : (findO l1 4 0).isSome = kb) :
    ∀ f k, xlk (hoXs b mb sb kb ) f = some k → @XGood (hoE W s t sp dp sq ak fl wn ug mv sv A1 n1 k1 A2 n2 k2 ft h) Try.prog noG f k := by
  letI : Inhabited EnvT := hoE W s t sp dp sq ak fl wn ug mv sv A1 n1 k1 A2 n2 k2 ft h
  intro f k hk
  unfold hoXs at hk
  simp only [xlk] at hk
  split at hk
  · rename_i hb
    cases hk
    cases Nat.eq_of_beq_eq_true hb
    refine tab_good (enters_of Try.func9 (by kernel_rfl) rfl) fun x v hm ρ Vs w hR ho hsz => ?_
    simp only [List.mem_singleton, Prod.mk.injEq] at hm
    obtain ⟨rfl, rfl⟩ := hm
    exact tab_one (As := []) rfl (fun _ => .bool _) hR (hwakes_any w)
  split at hk
  · rename_i hb
    cases hk
    cases Nat.eq_of_beq_eq_true hb
    refine tab_good (enters_of Try.func13 (by kernel_rfl) rfl) fun x v hm ρ Vs w hR ho hsz => ?_
    simp only [List.mem_singleton, Prod.mk.injEq] at hm
    obtain ⟨rfl, rfl⟩ := hm
    refine tab_one (As := [segV ⟨sp, dp, sq, ak, fl, wn, ug, l1, l2⟩ (.slice A1 n1 k1) (.slice A2 n2 k2)]) rfl (fun _ => .bool _) hR ?_
    rw [← e3]
    exact (may_any w ⟨sp, dp, sq, ak, fl, wn, ug, l1, l2⟩ A1 A2 n1 k1 n2 k2 (h1.heap ho hsz) (h2.heap ho hsz)).mono fun e w' ⟨he, kk⟩ => ⟨he, kk.below (Nat.le_refl _) (by simp)⟩
  split at hk
  · rename_i hb
    cases hk
    cases Nat.eq_of_beq_eq_true hb
    refine tab_good (enters_of Try.func27 (by kernel_rfl) rfl) fun x v hm ρ Vs w hR ho hsz => ?_
    simp only [List.mem_singleton, Prod.mk.injEq] at hm
    obtain ⟨rfl, rfl⟩ := hm
    refine tab_one (As := [suV t]) (by rw [← eb]; rfl) (fun _ => .bool _) hR ?_
    rw [← e2]
    exact (may_all w t).mono fun e w' ⟨he, kk⟩ => ⟨he, kk.below (Nat.le_refl _) (by simp)⟩
  split at hk
  · rename_i hb
    cases hk
    cases Nat.eq_of_beq_eq_true hb
    refine tab_good (enters_of Try.func72 (by kernel_rfl) rfl) fun x v hm ρ Vs w hR ho hsz => ?_
    simp only [List.mem_singleton, Prod.mk.injEq] at hm
    obtain ⟨rfl, rfl⟩ := hm
    refine tab_one (As := [.slice A1 n1 k1]) (Va := .tuple #[.int .u16 mv, .bool mb]) rfl (fun _ => .tup (.cons (.sx .u16 (.v 21)) (.cons (.bool _) .nil))) hR ?_
    have := mss_any w A1 n1 k1 l1 (h1.heap ho hsz)
    rw [e4] at this
    exact this.mono fun e w' ⟨he, kk⟩ => ⟨he, kk.below (Nat.le_refl _) (by simp)⟩
  split at hk
  · rename_i hb
    cases hk
    cases Nat.eq_of_beq_eq_true hb
    refine tab_good (enters_of Try.func73 (by kernel_rfl) rfl) fun x v hm ρ Vs w hR ho hsz => ?_
    simp only [List.mem_singleton, Prod.mk.injEq] at hm
    obtain ⟨rfl, rfl⟩ := hm
    refine tab_one (As := [.slice A1 n1 k1]) (Va := .tuple #[.int .i64 sv, .bool sb]) rfl (fun _ => .tup (.cons (.sx .i64 (.v 22)) (.cons (.bool _) .nil))) hR ?_
    have := scale_any w A1 n1 k1 l1 (h1.heap ho hsz)
    rw [e5] at this
    exact this.mono fun e w' ⟨he, kk⟩ => ⟨he, kk.below (Nat.le_refl _) (by simp)⟩
  split at hk
  · rename_i hb
    cases hk
    cases Nat.eq_of_beq_eq_true hb
    refine tab_good (enters_of Try.func74 (by kernel_rfl) rfl) fun x v hm ρ Vs w hR ho hsz => ?_
    simp only [List.mem_singleton, Prod.mk.injEq] at hm
    obtain ⟨rfl, rfl⟩ := hm
    refine tab_one (As := [.slice A1 n1 k1]) rfl (fun _ => .bool _) hR ?_
    rw [← e6]
    exact (sackOk_any w A1 n1 k1 l1 (h1.heap ho hsz)).mono fun e w' ⟨he, kk⟩ => ⟨he, kk.below (Nat.le_refl _) (by simp)⟩
  · cases hk

def hoF0 : List Fact := [.cmp .geq (.v 3) (.c 0) false, .cmp .geq (.v 10) (.c 0) false, .cmp .leq (.o .sub .i64 (.w .i64 (.w .u32 (.mx (.w .i32 (.o .sub .u32 (.o .add .u32 (.o .add .u32 (.v 1) (.c 1)) (.w .u32 (.w .u16 (.mn (.v 11) (.c 65535))))) (.o .add .u32 (.v 1) (.c 1)))) (.c 0)))) (.w .i64 (.o .sub .u32 (.o .add .u32 (.v 1) (.c 1)) (.o .add .u32 (.v 1) (.c 1))))) (.c 0) false, .cmp .eql (.o .add .u32 (.v 1) (.c 1)) (.o .add .u32 (.o .add .u32 (.v 1) (.c 1)) (.c 0)) true, .cmp .neq (.w .i64 (.w .u16 (.mn (.o .sub .i64 (.v 4) (.c 0)) (.c 65535)))) (.mn (.v 4) (.c 65535)) false, .cmp .gtr (.w .i32 (.o .sub .u32 (.o .add .u32 (.v 8) (.c 1)) (.o .add .u32 (.v 8) (.c 1)))) (.c 0) false, .cmp .gtr (.w .i32 (.o .sub .u32 (.o .add .u32 (.v 1) (.c 1)) (.v 1))) (.c 0) true, .cmp .geq (.mx (.o .sub .i64 (.c 0) (.w .i64 (.w .i32 (.o .sub .u32 (.o .add .u32 (.v 1) (.c 1)) (.o .add .u32 (.v 1) (.c 1)))))) (.c 0)) (.mn (.o .sub .i64 (.w .i64 (.mn (.w .u32 (.o .sub .i64 (.v 11) (.c 0))) (.c 2147483647))) (.w .i64 (.w .i32 (.o .sub .u32 (.o .add .u32 (.v 1) (.c 1)) (.o .add .u32 (.v 1) (.c 1)))))) (.c 0)) true, .cmp .leq (.o .sub .i64 (.w .i64 (.w .u32 (.mx (.w .i32 (.o .sub .u32 (.o .add .u32 (.o .add .u32 (.v 8) (.c 1)) (.o .shl .u32 (.w .u32 (.w .u16 (.mn (.o .sub .i64 (.v 4) (.c 0)) (.c 65535)))) (.c 0))) (.o .add .u32 (.v 8) (.c 1)))) (.c 0)))) (.w .i64 (.o .sub .u32 (.o .add .u32 (.v 8) (.c 1)) (.o .add .u32 (.v 8) (.c 1))))) (.c 0) false, .cmp .eql (.o .add .u32 (.v 8) (.c 1)) (.o .add .u32 (.o .add .u32 (.v 8) (.c 1)) (.c 0)) true]

def hoF1 : List Fact := [.cmp .geq (.v 3) (.c 0) true, .cmp .geq (.v 10) (.c 0) false, .cmp .leq (.o .sub .i64 (.w .i64 (.w .u32 (.mx (.w .i32 (.o .sub .u32 (.o .add .u32 (.o .add .u32 (.v 1) (.c 1)) (.w .u32 (.w .u16 (.mn (.v 11) (.c 65535))))) (.o .add .u32 (.v 1) (.c 1)))) (.c 0)))) (.w .i64 (.o .sub .u32 (.o .add .u32 (.v 1) (.c 1)) (.o .add .u32 (.v 1) (.c 1))))) (.c 0) false, .cmp .eql (.o .add .u32 (.v 1) (.c 1)) (.o .add .u32 (.o .add .u32 (.v 1) (.c 1)) (.c 0)) true, .cmp .neq (.w .i64 (.w .u16 (.mn (.o .sub .i64 (.v 4) (.c 0)) (.c 65535)))) (.mn (.v 4) (.c 65535)) false, .cmp .gtr (.w .i32 (.o .sub .u32 (.o .add .u32 (.v 8) (.c 1)) (.o .add .u32 (.v 8) (.c 1)))) (.c 0) false, .cmp .gtr (.w .i32 (.o .sub .u32 (.o .add .u32 (.v 1) (.c 1)) (.v 1))) (.c 0) true, .cmp .geq (.mx (.o .sub .i64 (.c 0) (.w .i64 (.w .i32 (.o .sub .u32 (.o .add .u32 (.v 1) (.c 1)) (.o .add .u32 (.v 1) (.c 1)))))) (.c 0)) (.mn (.o .sub .i64 (.w .i64 (.mn (.w .u32 (.o .sub .i64 (.v 11) (.c 0))) (.c 2147483647))) (.w .i64 (.w .i32 (.o .sub .u32 (.o .add .u32 (.v 1) (.c 1)) (.o .add .u32 (.v 1) (.c 1)))))) (.c 0)) true, .cmp .leq (.o .sub .i64 (.w .i64 (.w .u32 (.mx (.w .i32 (.o .sub .u32 (.o .add .u32 (.o .add .u32 (.v 8) (.c 1)) (.o .shl .u32 (.w .u32 (.w .u16 (.mn (.o .sub .i64 (.v 4) (.c 0)) (.c 65535)))) (.c 0))) (.o .add .u32 (.v 8) (.c 1)))) (.c 0)))) (.w .i64 (.o .sub .u32 (.o .add .u32 (.v 8) (.c 1)) (.o .add .u32 (.v 8) (.c 1))))) (.c 0) false, .cmp .eql (.o .add .u32 (.v 8) (.c 1)) (.o .add .u32 (.o .add .u32 (.v 8) (.c 1)) (.c 0)) true]

def hoF2 : List Fact := [.cmp .geq (.v 3) (.c 0) false, .cmp .geq (.v 10) (.c 0) true, .cmp .leq (.o .sub .i64 (.w .i64 (.w .u32 (.mx (.w .i32 (.o .sub .u32 (.o .add .u32 (.o .add .u32 (.v 1) (.c 1)) (.w .u32 (.w .u16 (.mn (.v 11) (.c 65535))))) (.o .add .u32 (.v 1) (.c 1)))) (.c 0)))) (.w .i64 (.o .sub .u32 (.o .add .u32 (.v 1) (.c 1)) (.o .add .u32 (.v 1) (.c 1))))) (.c 0) false, .cmp .eql (.o .add .u32 (.v 1) (.c 1)) (.o .add .u32 (.o .add .u32 (.v 1) (.c 1)) (.c 0)) true, .cmp .neq (.w .i64 (.w .u16 (.mn (.o .sub .i64 (.v 4) (.c 0)) (.c 65535)))) (.mn (.v 4) (.c 65535)) false, .cmp .gtr (.w .i32 (.o .sub .u32 (.o .add .u32 (.v 8) (.c 1)) (.o .add .u32 (.v 8) (.c 1)))) (.c 0) false, .cmp .gtr (.w .i32 (.o .sub .u32 (.o .add .u32 (.v 1) (.c 1)) (.v 1))) (.c 0) true, .cmp .geq (.mx (.o .sub .i64 (.c 0) (.w .i64 (.w .i32 (.o .sub .u32 (.o .add .u32 (.v 1) (.c 1)) (.o .add .u32 (.v 1) (.c 1)))))) (.c 0)) (.mn (.o .sub .i64 (.w .i64 (.mn (.w .u32 (.o .sub .i64 (.v 11) (.c 0))) (.c 2147483647))) (.w .i64 (.w .i32 (.o .sub .u32 (.o .add .u32 (.v 1) (.c 1)) (.o .add .u32 (.v 1) (.c 1)))))) (.c 0)) true, .cmp .leq (.o .sub .i64 (.w .i64 (.w .u32 (.mx (.w .i32 (.o .sub .u32 (.o .add .u32 (.o .add .u32 (.v 8) (.c 1)) (.o .shl .u32 (.w .u32 (.w .u16 (.mn (.o .sub .i64 (.v 4) (.c 0)) (.c 65535)))) (.c 0))) (.o .add .u32 (.v 8) (.c 1)))) (.c 0)))) (.w .i64 (.o .sub .u32 (.o .add .u32 (.v 8) (.c 1)) (.o .add .u32 (.v 8) (.c 1))))) (.c 0) false, .cmp .eql (.o .add .u32 (.v 8) (.c 1)) (.o .add .u32 (.o .add .u32 (.v 8) (.c 1)) (.c 0)) true]

def hoF3 : List Fact := [.cmp .geq (.v 3) (.c 0) true, .cmp .geq (.v 10) (.c 0) true, .cmp .lss (.v 3) (.c 0) false, .cmp .leq (.o .sub .i64 (.w .i64 (.w .u32 (.mx (.w .i32 (.o .sub .u32 (.o .add .u32 (.o .add .u32 (.v 1) (.c 1)) (.w .u32 (.w .u16 (.mn (.v 11) (.c 65535))))) (.o .add .u32 (.v 1) (.c 1)))) (.c 0)))) (.w .i64 (.o .sub .u32 (.o .add .u32 (.v 1) (.c 1)) (.o .add .u32 (.v 1) (.c 1))))) (.c 0) false, .cmp .eql (.o .add .u32 (.v 1) (.c 1)) (.o .add .u32 (.o .add .u32 (.v 1) (.c 1)) (.c 0)) true, .cmp .neq (.w .i64 (.w .u16 (.mn (.o .shr .i64 (.o .sub .i64 (.v 4) (.c 0)) (.v 3)) (.c 65535)))) (.mn (.o .shr .i64 (.v 4) (.v 3)) (.c 65535)) false, .cmp .gtr (.w .i32 (.o .sub .u32 (.o .add .u32 (.v 8) (.c 1)) (.o .add .u32 (.v 8) (.c 1)))) (.c 0) false, .cmp .gtr (.w .i32 (.o .sub .u32 (.o .add .u32 (.v 1) (.c 1)) (.v 1))) (.c 0) true, .cmp .lss (.mn (.w .i64 (.w .u8 (.mn (.mx (.v 3) (.c 0)) (.c 14)))) (.c 14)) (.c 0) false, .cmp .geq (.mx (.o .sub .i64 (.c 0) (.w .i64 (.w .i32 (.o .sub .u32 (.o .add .u32 (.v 1) (.c 1)) (.o .add .u32 (.v 1) (.c 1)))))) (.c 0)) (.mn (.o .sub .i64 (.w .i64 (.mn (.w .u32 (.o .sub .i64 (.v 11) (.c 0))) (.c 2147483647))) (.w .i64 (.w .i32 (.o .sub .u32 (.o .add .u32 (.v 1) (.c 1)) (.o .add .u32 (.v 1) (.c 1)))))) (.c 0)) true, .cmp .lss (.v 10) (.c 0) false, .cmp .leq (.o .sub .i64 (.w .i64 (.w .u32 (.mx (.w .i32 (.o .sub .u32 (.o .add .u32 (.o .add .u32 (.v 8) (.c 1)) (.o .shl .u32 (.w .u32 (.w .u16 (.mn (.o .shr .i64 (.o .sub .i64 (.v 4) (.c 0)) (.v 3)) (.c 65535)))) (.mn (.w .i64 (.w .u8 (.mn (.mx (.v 3) (.c 0)) (.c 14)))) (.c 14)))) (.o .add .u32 (.v 8) (.c 1)))) (.c 0)))) (.w .i64 (.o .sub .u32 (.o .add .u32 (.v 8) (.c 1)) (.o .add .u32 (.v 8) (.c 1))))) (.c 0) false, .cmp .eql (.o .add .u32 (.v 8) (.c 1)) (.o .add .u32 (.o .add .u32 (.v 8) (.c 1)) (.c 0)) true]

def hoF4 : List Fact := [.cmp .geq (.v 3) (.c 0) true, .cmp .geq (.v 10) (.c 0) true, .cmp .lss (.v 3) (.c 0) false, .cmp .leq (.o .sub .i64 (.w .i64 (.w .u32 (.mx (.w .i32 (.o .sub .u32 (.o .add .u32 (.o .add .u32 (.v 1) (.c 1)) (.w .u32 (.w .u16 (.mn (.v 11) (.c 65535))))) (.o .add .u32 (.v 1) (.c 1)))) (.c 0)))) (.w .i64 (.o .sub .u32 (.o .add .u32 (.v 1) (.c 1)) (.o .add .u32 (.v 1) (.c 1))))) (.c 0) false, .cmp .eql (.o .add .u32 (.v 1) (.c 1)) (.o .add .u32 (.o .add .u32 (.v 1) (.c 1)) (.c 0)) true, .cmp .neq (.w .i64 (.w .u16 (.mn (.o .shr .i64 (.o .sub .i64 (.v 4) (.c 0)) (.v 3)) (.c 65535)))) (.mn (.o .shr .i64 (.v 4) (.v 3)) (.c 65535)) false, .cmp .gtr (.w .i32 (.o .sub .u32 (.o .add .u32 (.v 8) (.c 1)) (.o .add .u32 (.v 8) (.c 1)))) (.c 0) false, .cmp .gtr (.w .i32 (.o .sub .u32 (.o .add .u32 (.v 1) (.c 1)) (.v 1))) (.c 0) true, .cmp .lss (.mn (.w .i64 (.w .u8 (.mn (.mx (.v 3) (.c 0)) (.c 14)))) (.c 14)) (.c 0) false, .cmp .geq (.mx (.o .sub .i64 (.c 0) (.w .i64 (.w .i32 (.o .sub .u32 (.o .add .u32 (.v 1) (.c 1)) (.o .add .u32 (.v 1) (.c 1)))))) (.c 0)) (.mn (.o .sub .i64 (.w .i64 (.mn (.w .u32 (.o .sub .i64 (.v 11) (.c 0))) (.c 2147483647))) (.w .i64 (.w .i32 (.o .sub .u32 (.o .add .u32 (.v 1) (.c 1)) (.o .add .u32 (.v 1) (.c 1)))))) (.c 0)) true, .cmp .lss (.v 10) (.c 0) false, .cmp .leq (.o .sub .i64 (.w .i64 (.w .u32 (.mx (.w .i32 (.o .sub .u32 (.o .add .u32 (.o .add .u32 (.v 8) (.c 1)) (.o .shl .u32 (.w .u32 (.w .u16 (.mn (.o .shr .i64 (.o .sub .i64 (.v 4) (.c 0)) (.v 3)) (.c 65535)))) (.mn (.w .i64 (.w .u8 (.mn (.mx (.v 3) (.c 0)) (.c 14)))) (.c 14)))) (.o .add .u32 (.v 8) (.c 1)))) (.c 0)))) (.w .i64 (.o .sub .u32 (.o .add .u32 (.v 8) (.c 1)) (.o .add .u32 (.v 8) (.c 1))))) (.c 0) true, .cmp .eql (.o .add .u32 (.v 8) (.c 1)) (.o .add .u32 (.o .add .u32 (.v 8) (.c 1)) (.c 0)) true]

def hoF5 : List Fact := []

def hoF6 : List Fact := [.cmp .geq (.v 3) (.c 0) false]

def hoF7 : List Fact := [.cmp .geq (.v 3) (.c 0) true]

def hoF8 : List Fact := [.cmp .neq (.o .and .u8 (.v 18) (.c 4)) (.c 0) true, .cmp .eql (.o .and .u8 (.v 18) (.c 22)) (.c 2) false, .cmp .eql (.o .and .u8 (.v 18) (.c 4)) (.c 0) false]

def hoF9 : List Fact := [.cmp .neq (.o .and .u8 (.v 18) (.c 4)) (.c 0) false, .cmp .neq (.o .and .u8 (.v 18) (.c 16)) (.c 0) true, .cmp .eql (.o .and .u8 (.v 18) (.c 22)) (.c 2) false, .cmp .eql (.o .and .u8 (.v 18) (.c 4)) (.c 0) true, .cmp .neq (.o .and .u8 (.v 18) (.c 18)) (.c 0) true]

def hoF10 : List Fact := [.cmp .neq (.o .and .u8 (.v 18) (.c 4)) (.c 0) false, .cmp .neq (.o .and .u8 (.v 18) (.c 16)) (.c 0) false, .cmp .eql (.o .and .u8 (.v 18) (.c 2)) (.c 0) true, .cmp .eql (.o .and .u8 (.v 18) (.c 22)) (.c 2) false, .cmp .eql (.o .and .u8 (.v 18) (.c 4)) (.c 0) true, .cmp .neq (.o .and .u8 (.v 18) (.c 18)) (.c 0) false]

def hoF11 : List Fact := [.cmp .neq (.o .and .u8 (.v 18) (.c 4)) (.c 0) false, .cmp .neq (.o .and .u8 (.v 18) (.c 16)) (.c 0) false, .cmp .eql (.o .and .u8 (.v 18) (.c 2)) (.c 0) false, .cmp .geq (.v 10) (.c 0) false, .cmp .eql (.o .and .u8 (.v 18) (.c 22)) (.c 2) true, .cmp .eql (.o .and .u8 (.v 18) (.c 4)) (.c 0) true, .cmp .neq (.o .and .u8 (.v 18) (.c 18)) (.c 0) true]

def hoF12 : List Fact := [.cmp .neq (.o .and .u8 (.v 18) (.c 4)) (.c 0) false, .cmp .neq (.o .and .u8 (.v 18) (.c 16)) (.c 0) false, .cmp .eql (.o .and .u8 (.v 18) (.c 2)) (.c 0) false, .cmp .geq (.v 10) (.c 0) true, .cmp .eql (.o .and .u8 (.v 18) (.c 22)) (.c 2) true, .cmp .eql (.o .and .u8 (.v 18) (.c 4)) (.c 0) true, .cmp .neq (.o .and .u8 (.v 18) (.c 18)) (.c 0) true]

theorem shl_room (room sc : Int) (r0 : 1 ≤ room) (r1 : room ≤ 131072) (c0 : 0 ≤ sc) (c1 : sc ≤ 14) : ∃ q P : Int, room.fdiv (p2 (Nat.min sc.toNat IntKind.i64.bits)) = q ∧ 0 ≤ q ∧ q ≤ room ∧ IntKind.u32.wrap (IntKind.u16.wrap (min q 65535)) * p2 (Nat.min sc.toNat IntKind.u32.bits) = P ∧ 0 ≤ P ∧ P ≤ 131072 ∧ (P = 0 ↔ q = 0) := by
  rcases (show sc = 0 ∨ sc = 1 ∨ sc = 2 ∨ sc = 3 ∨ sc = 4 ∨ sc = 5 ∨ sc = 6 ∨ sc = 7 ∨ sc = 8 ∨ sc = 9 ∨ sc = 10 ∨ sc = 11 ∨ sc = 12 ∨ sc = 13 ∨ sc = 14 by omega) with rfl | rfl | rfl | rfl | rfl | rfl | rfl | rfl | rfl | rfl | rfl | rfl | rfl | rfl | rfl
  · refine ⟨room / 1, _, ?_, by omega, by omega, rfl, ?_⟩
    · show room.fdiv 1 = _
      exact Int.fdiv_eq_ediv_of_nonneg _ (by omega)
    · have e : p2 (Nat.min ((0 : Int)).toNat IntKind.u32.bits) = 1 := rfl
      rw [e, IntKind.wrap_u32, IntKind.wrap_u16]
      omega
  · refine ⟨room / 2, _, ?_, by omega, by omega, rfl, ?_⟩
    · show room.fdiv 2 = _
      exact Int.fdiv_eq_ediv_of_nonneg _ (by omega)
    · have e : p2 (Nat.min ((1 : Int)).toNat IntKind.u32.bits) = 2 := rfl
      rw [e, IntKind.wrap_u32, IntKind.wrap_u16]
      omega
  · refine ⟨room / 4, _, ?_, by omega, by omega, rfl, ?_⟩
    · show room.fdiv 4 = _
      exact Int.fdiv_eq_ediv_of_nonneg _ (by omega)
    · have e : p2 (Nat.min ((2 : Int)).toNat IntKind.u32.bits) = 4 := rfl
      rw [e, IntKind.wrap_u32, IntKind.wrap_u16]
      omega
  · refine ⟨room / 8, _, ?_, by omega, by omega, rfl, ?_⟩
    · show room.fdiv 8 = _
      exact Int.fdiv_eq_ediv_of_nonneg _ (by omega)
    · have e : p2 (Nat.min ((3 : Int)).toNat IntKind.u32.bits) = 8 := rfl
      rw [e, IntKind.wrap_u32, IntKind.wrap_u16]
      omega
  · refine ⟨room / 16, _, ?_, by omega, by omega, rfl, ?_⟩
    · show room.fdiv 16 = _
      exact Int.fdiv_eq_ediv_of_nonneg _ (by omega)
    · have e : p2 (Nat.min ((4 : Int)).toNat IntKind.u32.bits) = 16 := rfl
      rw [e, IntKind.wrap_u32, IntKind.wrap_u16]
      omega
  · refine ⟨room / 32, _, ?_, by omega, by omega, rfl, ?_⟩
    · show room.fdiv 32 = _
      exact Int.fdiv_eq_ediv_of_nonneg _ (by omega)
    · have e : p2 (Nat.min ((5 : Int)).toNat IntKind.u32.bits) = 32 := rfl
      rw [e, IntKind.wrap_u32, IntKind.wrap_u16]
      omega
  · refine ⟨room / 64, _, ?_, by omega, by omega, rfl, ?_⟩
    · show room.fdiv 64 = _
      exact Int.fdiv_eq_ediv_of_nonneg _ (by omega)
    · have e : p2 (Nat.min ((6 : Int)).toNat IntKind.u32.bits) = 64 := rfl
      rw [e, IntKind.wrap_u32, IntKind.wrap_u16]
      omega
  · refine ⟨room / 128, _, ?_, by omega, by omega, rfl, ?_⟩
    · show room.fdiv 128 = _
      exact Int.fdiv_eq_ediv_of_nonneg _ (by omega)
    · have e : p2 (Nat.min ((7 : Int)).toNat IntKind.u32.bits) = 128 := rfl
      rw [e, IntKind.wrap_u32, IntKind.wrap_u16]
      omega
  · refine ⟨room / 256, _, ?_, by omega, by omega, rfl, ?_⟩
    · show room.fdiv 256 = _
      exact Int.fdiv_eq_ediv_of_nonneg _ (by omega)
    · have e : p2 (Nat.min ((8 : Int)).toNat IntKind.u32.bits) = 256 := rfl
      rw [e, IntKind.wrap_u32, IntKind.wrap_u16]
      omega
  · refine ⟨room / 512, _, ?_, by omega, by omega, rfl, ?_⟩
    · show room.fdiv 512 = _
      exact Int.fdiv_eq_ediv_of_nonneg _ (by omega)
    · have e : p2 (Nat.min ((9 : Int)).toNat IntKind.u32.bits) = 512 := rfl
      rw [e, IntKind.wrap_u32, IntKind.wrap_u16]
      omega
  · refine ⟨room / 1024, _, ?_, by omega, by omega, rfl, ?_⟩
    · show room.fdiv 1024 = _
      exact Int.fdiv_eq_ediv_of_nonneg _ (by omega)
    · have e : p2 (Nat.min ((10 : Int)).toNat IntKind.u32.bits) = 1024 := rfl
      rw [e, IntKind.wrap_u32, IntKind.wrap_u16]
      omega
  · refine ⟨room / 2048, _, ?_, by omega, by omega, rfl, ?_⟩
    · show room.fdiv 2048 = _
      exact Int.fdiv_eq_ediv_of_nonneg _ (by omega)
    · have e : p2 (Nat.min ((11 : Int)).toNat IntKind.u32.bits) = 2048 := rfl
      rw [e, IntKind.wrap_u32, IntKind.wrap_u16]
      omega
  · refine ⟨room / 4096, _, ?_, by omega, by omega, rfl, ?_⟩
    · show room.fdiv 4096 = _
      exact Int.fdiv_eq_ediv_of_nonneg _ (by omega)
    · have e : p2 (Nat.min ((12 : Int)).toNat IntKind.u32.bits) = 4096 := rfl
      rw [e, IntKind.wrap_u32, IntKind.wrap_u16]
      omega
  · refine ⟨room / 8192, _, ?_, by omega, by omega, rfl, ?_⟩
    · show room.fdiv 8192 = _
      exact Int.fdiv_eq_ediv_of_nonneg _ (by omega)
    · have e : p2 (Nat.min ((13 : Int)).toNat IntKind.u32.bits) = 8192 := rfl
      rw [e, IntKind.wrap_u32, IntKind.wrap_u16]
      omega
  · refine ⟨room / 16384, _, ?_, by omega, by omega, rfl, ?_⟩
    · show room.fdiv 16384 = _
      exact Int.fdiv_eq_ediv_of_nonneg _ (by omega)
    · have e : p2 (Nat.min ((14 : Int)).toNat IntKind.u32.bits) = 16384 := rfl
      rw [e, IntKind.wrap_u32, IntKind.wrap_u16]
      omega
set_option maxRecDepth 100000 in
theorem fl_R : ∀ n : Fin 256, opI .and .u8 ((n.val : Nat) : Int) 4 ≠ 0 → opI .and .u8 ((n.val : Nat) : Int) 22 ≠ 2 := by decide
set_option maxRecDepth 100000 in
theorem fl_A : ∀ n : Fin 256, opI .and .u8 ((n.val : Nat) : Int) 4 = 0 → opI .and .u8 ((n.val : Nat) : Int) 16 ≠ 0 → opI .and .u8 ((n.val : Nat) : Int) 22 ≠ 2 ∧ opI .and .u8 ((n.val : Nat) : Int) 18 ≠ 0 := by decide
set_option maxRecDepth 100000 in
theorem fl_N : ∀ n : Fin 256, opI .and .u8 ((n.val : Nat) : Int) 4 = 0 → opI .and .u8 ((n.val : Nat) : Int) 16 = 0 → opI .and .u8 ((n.val : Nat) : Int) 2 = 0 → opI .and .u8 ((n.val : Nat) : Int) 22 ≠ 2 ∧ opI .and .u8 ((n.val : Nat) : Int) 18 = 0 := by decide
set_option maxRecDepth 100000 in
theorem fl_S : ∀ n : Fin 256, opI .and .u8 ((n.val : Nat) : Int) 4 = 0 → opI .and .u8 ((n.val : Nat) : Int) 16 = 0 → opI .and .u8 ((n.val : Nat) : Int) 2 ≠ 0 → opI .and .u8 ((n.val : Nat) : Int) 22 = 2 ∧ opI .and .u8 ((n.val : Nat) : Int) 18 ≠ 0 := by decide
structure HoOk (s : SU) : Prop where
  iss : 0 ≤ s.iss ∧ s.iss ≤ 4294967295
  mss : 1 ≤ s.mss ∧ s.mss ≤ 1460
  scale : -1 ≤ s.scale ∧ s.scale ≤ 14
  room : 1 ≤ s.room ∧ s.room ≤ 131072
set_option maxRecDepth 100000 in
set_option maxHeartbeats 2000000 in
theorem hoF0_ok (s t : SU) (sp dp sq ak fl wn ug mv sv : Int) (os : HoOk s) (ot : HoOk t) (hc : s.scale < 0 ∧ t.scale < 0) : ∀ f, f ∈ hoF0 → f.holds (hoI s t sp dp sq ak fl wn ug mv sv) := by
  obtain ⟨i0, i1⟩ := os.iss
  obtain ⟨m0, m1⟩ := os.mss
  obtain ⟨c0, c1⟩ := os.scale
  obtain ⟨r0, r1⟩ := os.room
  obtain ⟨j0, j1⟩ := ot.iss
  obtain ⟨d0, d1⟩ := ot.scale
  obtain ⟨u0, u1⟩ := ot.room
  have hrw : IntKind.i64.wrap (s.room - 0) = s.room := by rw [IntKind.wrap_i64]; omega
  have e0 : p2 (Nat.min (Int.toNat 0) IntKind.u32.bits) = 1 := rfl
  intro f hf
  simp only [hoF0, List.mem_cons, List.not_mem_nil, or_false] at hf
  rcases hf with rfl | rfl | rfl | rfl | rfl | rfl | rfl | rfl | rfl | rfl <;>
    (simp only [Fact.holds, Sx.den, cmpI, opI, hoI]
     try simp only [e0, hrw]
     skip
     skip
     simp only [IntKind.wrap_i64, IntKind.wrap_i32, IntKind.wrap_u64, IntKind.wrap_u32, IntKind.wrap_u16, IntKind.wrap_u8, Option.some.injEq, decide_eq_true_eq, decide_eq_false_iff_not, beq_iff_eq, beq_eq_false_iff_ne, bne_iff_ne, bne_eq_false_iff_eq, ne_eq, gt_iff_lt, ge_iff_le]
     omega)
set_option maxRecDepth 100000 in
set_option maxHeartbeats 2000000 in
theorem hoF1_ok (s t : SU) (sp dp sq ak fl wn ug mv sv : Int) (os : HoOk s) (ot : HoOk t) (hc : 0 ≤ s.scale ∧ t.scale < 0) : ∀ f, f ∈ hoF1 → f.holds (hoI s t sp dp sq ak fl wn ug mv sv) := by
  obtain ⟨i0, i1⟩ := os.iss
  obtain ⟨m0, m1⟩ := os.mss
  obtain ⟨c0, c1⟩ := os.scale
  obtain ⟨r0, r1⟩ := os.room
  obtain ⟨j0, j1⟩ := ot.iss
  obtain ⟨d0, d1⟩ := ot.scale
  obtain ⟨u0, u1⟩ := ot.room
  have hrw : IntKind.i64.wrap (s.room - 0) = s.room := by rw [IntKind.wrap_i64]; omega
  have e0 : p2 (Nat.min (Int.toNat 0) IntKind.u32.bits) = 1 := rfl
  intro f hf
  simp only [hoF1, List.mem_cons, List.not_mem_nil, or_false] at hf
  rcases hf with rfl | rfl | rfl | rfl | rfl | rfl | rfl | rfl | rfl | rfl <;>
    (simp only [Fact.holds, Sx.den, cmpI, opI, hoI]
     try simp only [e0, hrw]
     skip
     skip
     simp only [IntKind.wrap_i64, IntKind.wrap_i32, IntKind.wrap_u64, IntKind.wrap_u32, IntKind.wrap_u16, IntKind.wrap_u8, Option.some.injEq, decide_eq_true_eq, decide_eq_false_iff_not, beq_iff_eq, beq_eq_false_iff_ne, bne_iff_ne, bne_eq_false_iff_eq, ne_eq, gt_iff_lt, ge_iff_le]
     omega)
set_option maxRecDepth 100000 in
set_option maxHeartbeats 2000000 in
theorem hoF2_ok (s t : SU) (sp dp sq ak fl wn ug mv sv : Int) (os : HoOk s) (ot : HoOk t) (hc : s.scale < 0 ∧ 0 ≤ t.scale) : ∀ f, f ∈ hoF2 → f.holds (hoI s t sp dp sq ak fl wn ug mv sv) := by
  obtain ⟨i0, i1⟩ := os.iss
  obtain ⟨m0, m1⟩ := os.mss
  obtain ⟨c0, c1⟩ := os.scale
  obtain ⟨r0, r1⟩ := os.room
  obtain ⟨j0, j1⟩ := ot.iss
  obtain ⟨d0, d1⟩ := ot.scale
  obtain ⟨u0, u1⟩ := ot.room
  have hrw : IntKind.i64.wrap (s.room - 0) = s.room := by rw [IntKind.wrap_i64]; omega
  have e0 : p2 (Nat.min (Int.toNat 0) IntKind.u32.bits) = 1 := rfl
  intro f hf
  simp only [hoF2, List.mem_cons, List.not_mem_nil, or_false] at hf
  rcases hf with rfl | rfl | rfl | rfl | rfl | rfl | rfl | rfl | rfl | rfl <;>
    (simp only [Fact.holds, Sx.den, cmpI, opI, hoI]
     try simp only [e0, hrw]
     skip
     skip
     simp only [IntKind.wrap_i64, IntKind.wrap_i32, IntKind.wrap_u64, IntKind.wrap_u32, IntKind.wrap_u16, IntKind.wrap_u8, Option.some.injEq, decide_eq_true_eq, decide_eq_false_iff_not, beq_iff_eq, beq_eq_false_iff_ne, bne_iff_ne, bne_eq_false_iff_eq, ne_eq, gt_iff_lt, ge_iff_le]
     omega)
set_option maxRecDepth 100000 in
set_option maxHeartbeats 2000000 in
theorem hoF3_ok (s t : SU) (sp dp sq ak fl wn ug mv sv : Int) (os : HoOk s) (ot : HoOk t) (hc : 0 ≤ s.scale ∧ 0 ≤ t.scale ∧ (0 < s.room.fdiv (p2 (Nat.min s.scale.toNat IntKind.i64.bits)))) : ∀ f, f ∈ hoF3 → f.holds (hoI s t sp dp sq ak fl wn ug mv sv) := by
  obtain ⟨i0, i1⟩ := os.iss
  obtain ⟨m0, m1⟩ := os.mss
  obtain ⟨c0, c1⟩ := os.scale
  obtain ⟨r0, r1⟩ := os.room
  obtain ⟨j0, j1⟩ := ot.iss
  obtain ⟨d0, d1⟩ := ot.scale
  obtain ⟨u0, u1⟩ := ot.room
  have hrw : IntKind.i64.wrap (s.room - 0) = s.room := by rw [IntKind.wrap_i64]; omega
  have e0 : p2 (Nat.min (Int.toNat 0) IntKind.u32.bits) = 1 := rfl
  obtain ⟨q, P, hq, q0, q1, hP, P0, P1, hPq⟩ := shl_room s.room s.scale r0 r1 hc.1 c1
  rw [hq] at hc
  have hsc : min (IntKind.i64.wrap (IntKind.u8.wrap (min (max s.scale 0) 14))) 14 = s.scale := by rw [IntKind.wrap_i64, IntKind.wrap_u8]; omega
  intro f hf
  simp only [hoF3, List.mem_cons, List.not_mem_nil, or_false] at hf
  rcases hf with rfl | rfl | rfl | rfl | rfl | rfl | rfl | rfl | rfl | rfl | rfl | rfl | rfl <;>
    (simp only [Fact.holds, Sx.den, cmpI, opI, hoI]
     try simp only [e0, hrw, hsc]
     try simp only [hq]
     try simp only [hP]
     simp only [IntKind.wrap_i64, IntKind.wrap_i32, IntKind.wrap_u64, IntKind.wrap_u32, IntKind.wrap_u16, IntKind.wrap_u8, Option.some.injEq, decide_eq_true_eq, decide_eq_false_iff_not, beq_iff_eq, beq_eq_false_iff_ne, bne_iff_ne, bne_eq_false_iff_eq, ne_eq, gt_iff_lt, ge_iff_le]
     omega)
set_option maxRecDepth 100000 in
set_option maxHeartbeats 2000000 in
theorem hoF4_ok (s t : SU) (sp dp sq ak fl wn ug mv sv : Int) (os : HoOk s) (ot : HoOk t) (hc : 0 ≤ s.scale ∧ 0 ≤ t.scale ∧ (¬ 0 < s.room.fdiv (p2 (Nat.min s.scale.toNat IntKind.i64.bits)))) : ∀ f, f ∈ hoF4 → f.holds (hoI s t sp dp sq ak fl wn ug mv sv) := by
  obtain ⟨i0, i1⟩ := os.iss
  obtain ⟨m0, m1⟩ := os.mss
  obtain ⟨c0, c1⟩ := os.scale
  obtain ⟨r0, r1⟩ := os.room
  obtain ⟨j0, j1⟩ := ot.iss
  obtain ⟨d0, d1⟩ := ot.scale
  obtain ⟨u0, u1⟩ := ot.room
  have hrw : IntKind.i64.wrap (s.room - 0) = s.room := by rw [IntKind.wrap_i64]; omega
  have e0 : p2 (Nat.min (Int.toNat 0) IntKind.u32.bits) = 1 := rfl
  obtain ⟨q, P, hq, q0, q1, hP, P0, P1, hPq⟩ := shl_room s.room s.scale r0 r1 hc.1 c1
  rw [hq] at hc
  have hsc : min (IntKind.i64.wrap (IntKind.u8.wrap (min (max s.scale 0) 14))) 14 = s.scale := by rw [IntKind.wrap_i64, IntKind.wrap_u8]; omega
  intro f hf
  simp only [hoF4, List.mem_cons, List.not_mem_nil, or_false] at hf
  rcases hf with rfl | rfl | rfl | rfl | rfl | rfl | rfl | rfl | rfl | rfl | rfl | rfl | rfl <;>
    (simp only [Fact.holds, Sx.den, cmpI, opI, hoI]
     try simp only [e0, hrw, hsc]
     try simp only [hq]
     try simp only [hP]
     simp only [IntKind.wrap_i64, IntKind.wrap_i32, IntKind.wrap_u64, IntKind.wrap_u32, IntKind.wrap_u16, IntKind.wrap_u8, Option.some.injEq, decide_eq_true_eq, decide_eq_false_iff_not, beq_iff_eq, beq_eq_false_iff_ne, bne_iff_ne, bne_eq_false_iff_eq, ne_eq, gt_iff_lt, ge_iff_le]
     omega)
theorem hoF5_ok (s t : SU) (sp dp sq ak fl wn ug mv sv : Int) : ∀ f, f ∈ hoF5 → f.holds (hoI s t sp dp sq ak fl wn ug mv sv) := by
  intro f hf
  cases hf
theorem hoF6_ok (s t : SU) (sp dp sq ak fl wn ug mv sv : Int) (hc : s.scale < 0) : ∀ f, f ∈ hoF6 → f.holds (hoI s t sp dp sq ak fl wn ug mv sv) := by
  intro f hf
  simp only [hoF6, List.mem_cons, List.not_mem_nil, or_false] at hf
  subst hf
  simp only [Fact.holds, Sx.den, cmpI, hoI, Option.some.injEq, decide_eq_true_eq, decide_eq_false_iff_not, beq_iff_eq, beq_eq_false_iff_ne, bne_iff_ne, bne_eq_false_iff_eq, ne_eq, gt_iff_lt, ge_iff_le]
  omega
theorem hoF7_ok (s t : SU) (sp dp sq ak fl wn ug mv sv : Int) (hc : 0 ≤ s.scale) : ∀ f, f ∈ hoF7 → f.holds (hoI s t sp dp sq ak fl wn ug mv sv) := by
  intro f hf
  simp only [hoF7, List.mem_cons, List.not_mem_nil, or_false] at hf
  subst hf
  simp only [Fact.holds, Sx.den, cmpI, hoI, Option.some.injEq, decide_eq_true_eq, decide_eq_false_iff_not, beq_iff_eq, beq_eq_false_iff_ne, bne_iff_ne, bne_eq_false_iff_eq, ne_eq, gt_iff_lt, ge_iff_le]
  omega
set_option maxRecDepth 100000 in
theorem hoF8_ok (s t : SU) (sp dp sq ak fl wn ug mv sv : Int) (f0 : 0 ≤ fl) (f1 : fl ≤ 255) (x4 : opI .and .u8 fl 4 ≠ 0) : ∀ f, f ∈ hoF8 → f.holds (hoI s t sp dp sq ak fl wn ug mv sv) := by
  obtain ⟨m, rfl⟩ : ∃ m : Nat, fl = (m : Int) := ⟨fl.toNat, by omega⟩
  have hm : m < 256 := by omega
  have y22 := fl_R ⟨m, hm⟩ x4
  intro f hf
  simp only [hoF8, List.mem_cons, List.not_mem_nil, or_false] at hf
  simp only [] at *
  rcases hf with rfl | rfl | rfl <;> (simp only [Fact.holds, Sx.den, cmpI, hoI]; first | (simp [x4, y22]; done) | (simp; omega))
set_option maxRecDepth 100000 in
theorem hoF9_ok (s t : SU) (sp dp sq ak fl wn ug mv sv : Int) (f0 : 0 ≤ fl) (f1 : fl ≤ 255) (x4 : opI .and .u8 fl 4 = 0) (x16 : opI .and .u8 fl 16 ≠ 0) : ∀ f, f ∈ hoF9 → f.holds (hoI s t sp dp sq ak fl wn ug mv sv) := by
  obtain ⟨m, rfl⟩ : ∃ m : Nat, fl = (m : Int) := ⟨fl.toNat, by omega⟩
  have hm : m < 256 := by omega
  obtain ⟨y22, y18⟩ := fl_A ⟨m, hm⟩ x4 x16
  intro f hf
  simp only [hoF9, List.mem_cons, List.not_mem_nil, or_false] at hf
  simp only [] at *
  rcases hf with rfl | rfl | rfl | rfl | rfl <;> (simp only [Fact.holds, Sx.den, cmpI, hoI]; first | (simp [x4, x16, y22, y18]; done) | (simp; omega))
set_option maxRecDepth 100000 in
theorem hoF10_ok (s t : SU) (sp dp sq ak fl wn ug mv sv : Int) (f0 : 0 ≤ fl) (f1 : fl ≤ 255) (x4 : opI .and .u8 fl 4 = 0) (x16 : opI .and .u8 fl 16 = 0) (x2 : opI .and .u8 fl 2 = 0) : ∀ f, f ∈ hoF10 → f.holds (hoI s t sp dp sq ak fl wn ug mv sv) := by
  obtain ⟨m, rfl⟩ : ∃ m : Nat, fl = (m : Int) := ⟨fl.toNat, by omega⟩
  have hm : m < 256 := by omega
  obtain ⟨y22, y18⟩ := fl_N ⟨m, hm⟩ x4 x16 x2
  intro f hf
  simp only [hoF10, List.mem_cons, List.not_mem_nil, or_false] at hf
  simp only [] at *
  rcases hf with rfl | rfl | rfl | rfl | rfl | rfl <;> (simp only [Fact.holds, Sx.den, cmpI, hoI]; first | (simp [x4, x16, x2, y22, y18]; done) | (simp; omega))
set_option maxRecDepth 100000 in
theorem hoF11_ok (s t : SU) (sp dp sq ak fl wn ug mv sv : Int) (f0 : 0 ≤ fl) (f1 : fl ≤ 255) (x4 : opI .and .u8 fl 4 = 0) (x16 : opI .and .u8 fl 16 = 0) (x2 : opI .and .u8 fl 2 ≠ 0) (hc : t.scale < 0) : ∀ f, f ∈ hoF11 → f.holds (hoI s t sp dp sq ak fl wn ug mv sv) := by
  obtain ⟨m, rfl⟩ : ∃ m : Nat, fl = (m : Int) := ⟨fl.toNat, by omega⟩
  have hm : m < 256 := by omega
  obtain ⟨y22, y18⟩ := fl_S ⟨m, hm⟩ x4 x16 x2
  intro f hf
  simp only [hoF11, List.mem_cons, List.not_mem_nil, or_false] at hf
  simp only [] at *
  rcases hf with rfl | rfl | rfl | rfl | rfl | rfl | rfl <;> (simp only [Fact.holds, Sx.den, cmpI, hoI]; first | (simp [x4, x16, x2, y22, y18]; done) | (simp; omega))
set_option maxRecDepth 100000 in
theorem hoF12_ok (s t : SU) (sp dp sq ak fl wn ug mv sv : Int) (f0 : 0 ≤ fl) (f1 : fl ≤ 255) (x4 : opI .and .u8 fl 4 = 0) (x16 : opI .and .u8 fl 16 = 0) (x2 : opI .and .u8 fl 2 ≠ 0) (hc : 0 ≤ t.scale) : ∀ f, f ∈ hoF12 → f.holds (hoI s t sp dp sq ak fl wn ug mv sv) := by
  obtain ⟨m, rfl⟩ : ∃ m : Nat, fl = (m : Int) := ⟨fl.toNat, by omega⟩
  have hm : m < 256 := by omega
  obtain ⟨y22, y18⟩ := fl_S ⟨m, hm⟩ x4 x16 x2
  intro f hf
  simp only [hoF12, List.mem_cons, List.not_mem_nil, or_false] at hf
  simp only [] at *
  rcases hf with rfl | rfl | rfl | rfl | rfl | rfl | rfl <;> (simp only [Fact.holds, Sx.den, cmpI, hoI]; first | (simp [x4, x16, x2, y22, y18]; done) | (simp; omega))
end Go.Proofs.Ytgaidloicmkdaaa
