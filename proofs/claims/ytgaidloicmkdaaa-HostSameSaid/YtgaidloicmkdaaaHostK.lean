/-
  The walks of package host behind an RST (state Reset), and Abort where the host is Up. Condition: a host's numbers are in the ranges of their kinds.
-/
import Derived.Test.YtgaidloicmkdaaaHostI
namespace Go.Proofs.Ytgaidloicmkdaaa
open Go.RowKit
set_option linter.unusedVariables false
set_option linter.unusedSimpArgs false
attribute [local go_sem ↓] Go.wp_at_zero Go.wp_at_succ

set_option maxRecDepth 100000 in
set_option maxHeartbeats 1000000 in
theorem hwrite_reset {w : World} {b : Nat} {s : HS} (h : HostAt w b s) (hst : s.st = 12) (hcl : s.closed = false) (v : Value) (now : Int) :
    Calls Try.prog 20 #[.pointer (some ⟨b, 0, none⟩), v, .int .u64 now] w fun e w' => e = .returned (.tuple #[.slice none 0 0, .int .i64 24]) ∧ w = w' := by
  have c8 := h.c8
  rw [hst] at c8
  have c13 := h.c13
  rw [hcl] at c13
  have HN := Lib.hid (hnone_no h (by omega))
  clear h hst hcl
  go_enter Try.func20, Try.ntmps20
  go_wp2_with fail
  refine HN.out.mono ?_
  rintro e w1 ⟨rfl, rfl⟩
  go_wp2_with fail
  go_ret2
  exact ⟨rfl, rfl⟩

set_option maxRecDepth 100000 in
set_option maxHeartbeats 1000000 in
theorem hclose_reset {w : World} {b : Nat} {s : HS} (h : HostAt w b s) (hst : s.st = 12) (hcl : s.closed = false) (now : Int) :
    Calls Try.prog 21 #[.pointer (some ⟨b, 0, none⟩), .int .u64 now] w fun e w' => e = .returned (.tuple #[.slice none 0 0, .int .i64 24]) ∧ w = w' := by
  have c8 := h.c8
  rw [hst] at c8
  have c13 := h.c13
  rw [hcl] at c13
  have HN := Lib.hid (hnone_no h (by omega))
  clear h hst hcl
  go_enter Try.func21, Try.ntmps21
  go_wp2_with fail
  refine HN.out.mono ?_
  rintro e w1 ⟨rfl, rfl⟩
  go_wp2_with fail
  go_ret2
  exact ⟨rfl, rfl⟩

set_option maxRecDepth 100000 in
set_option maxHeartbeats 1000000 in
theorem habort_reset {w : World} {b : Nat} {s : HS} (h : HostAt w b s) (hst : s.st = 12) :
    Calls Try.prog 19 #[.pointer (some ⟨b, 0, none⟩)] w fun e w' => e = .returned (.tuple #[.slice none 0 0, .int .i64 24]) ∧ w = w' := by
  have c8 := h.c8
  rw [hst] at c8
  have HN := Lib.hid (hnone_no h (by omega))
  clear h hst
  go_enter Try.func19, Try.ntmps19
  go_wp2_with fail
  refine HN.out.mono ?_
  rintro e w1 ⟨rfl, rfl⟩
  go_wp2_with fail
  go_ret2
  exact ⟨rfl, rfl⟩

set_option maxRecDepth 100000 in
set_option maxHeartbeats 1000000 in
theorem htick_gone {w : World} {b : Nat} {s : HS} (h : HostAt w b s) (hst : 11 ≤ s.st) (now : Int) :
    Calls Try.prog 22 #[.pointer (some ⟨b, 0, none⟩), .int .u64 now] w fun e w' => e = .returned (.tuple #[.slice none 0 0, .int .i64 0]) ∧ w = w' := by
  have HN := Lib.hid (hnone_no h (by omega))
  have HL := Lib.hid (halarm_gone h hst)
  clear h hst
  go_enter Try.func22, Try.ntmps22
  go_wp2_with fail
  refine HL.out.mono ?_
  rintro e w1 ⟨rfl, rfl⟩
  go_wp2_with fail
  refine HN.out.mono ?_
  rintro e w1 ⟨rfl, rfl⟩
  go_wp2_with fail
  go_ret2
  exact ⟨rfl, rfl⟩

def HS.rstack (s : HS) : Seg := ⟨s.ack.sp, s.ack.dp, s.ack.sq, s.ack.ak, 20, 0, 0, [], []⟩
set_option maxRecDepth 100000 in
set_option maxHeartbeats 1000000 in
theorem habort_up {w : World} {b : Nat} {s : HS} (h : HostAt w b s) (hst : s.st = 4) (ok : HS.Ok { s with st := 12 }) :
    Calls Try.prog 19 #[.pointer (some ⟨b, 0, none⟩)] w fun e w' => ∃ v, e = .returned (.tuple #[v, .int .i64 0]) ∧ OneSeg w' v (HS.rstack { s with st := 12 }) (.slice none 0 0) (.slice none 0 0) ∧ HostAt w' b { s with st := 12 } ∧ Keeps [b] w w' := by
  have c8 := h.c8
  rw [hst] at c8
  have f8 := h.fz 8
  have HN := Lib.hid (hnone_no h (by omega))
  have h12 := h.s8 12
  have HA := Lib.hid (hack_any h12 ok)
  have H12 := Lib.hid h12
  clear h hst h12 ok
  go_enter Try.func19, Try.ntmps19
  go_wp2_with fail
  refine HN.out.mono ?_
  rintro e w1 ⟨rfl, rfl⟩
  go_wp2_with fail
  refine HA.out.mono ?_
  rintro e w1 ⟨rfl, k1⟩
  have K1 := Lib.hid k1
  clear k1
  unfold HS.ack segV
  go_wp2_with fail
  go_ret2
  refine ⟨_, rfl, OneSeg.block (two_allocs w1 _ _).2 (SegAt.nil _ _ rfl rfl), (H12.out.keep0 K1.out).keep0 ((Keeps.alloc _ _ _).alloc' _), ?_⟩
  exact (Keeps.trans ((Keeps.setCell w ⟨b, 8, none⟩ _).trans (K1.out.mono (T := [b]) (by simp))) ((Keeps.alloc _ _ _).alloc' _))
end Go.Proofs.Ytgaidloicmkdaaa
