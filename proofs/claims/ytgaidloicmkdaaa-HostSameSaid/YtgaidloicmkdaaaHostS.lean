/-
  The walks of package host: the small methods. Condition: a host's numbers are in the ranges of their kinds.
-/
import Derived.Test.YtgaidloicmkdaaaHostW
import Derived.BigRegion
namespace Go.Proofs.Ytgaidloicmkdaaa
open Go.RowKit
set_option linter.unusedVariables false
set_option linter.unusedSimpArgs false

def HS.begin (s : HS) (now : Int) : HS := { s with set := true, wait := s.rto, alarm := now + s.rto, count := 0 }

set_option maxRecDepth 100000 in
set_option maxHeartbeats 1000000 in
theorem hbegin_any {w : World} {b : Nat} {s : HS} (h : HostAt w b s) (now : Int) (r0 : 0 ≤ s.rto) (r1 : s.rto ≤ 1073741824) (n0 : 0 ≤ now) (n1 : now ≤ 4398046511104) :
    Calls Try.prog 28 #[.pointer (some ⟨b, 0, none⟩), .int .u64 now] w fun e w' => e = .returned (.tuple #[]) ∧ HostAt w' b (s.begin now) ∧ Keeps [b] w w' := by
  have c6 := h.c6
  have z19 := h.fz 26
  have z20 := h.fz 27
  have z21 := h.fz 28
  have z22 := h.fz 29
  have c26 := h.c26
  have c27 := h.c27
  have c28 := h.c28
  have c29 := h.c29
  have H := Lib.hid h
  clear h
  go_enter Try.func28, Try.ntmps28
  go_region
  go_end0
  refine ⟨rfl, ?_, ?_⟩
  · exact ((((H.out.s26 true).s28 _).s27 _).s29 _).keep0 (Keeps.drew _ _)
  · repeat (first | exact Keeps.refl _ _ | apply Keeps.alloc' | apply Keeps.drew' | (refine Keeps.setCell' ?_ (by simp) _))

set_option maxHeartbeats 400000 in
theorem hnone_nil (w : World) : Calls Try.prog 31 #[.pointer none] w fun e w' => e = .returned (.bool true) ∧ w = w' := by
  go_enter Try.func31, Try.ntmps31
  go_wp2
  go_ret
  exact ⟨rfl, rfl⟩
set_option maxHeartbeats 400000 in
theorem hnone_any {w : World} {b : Nat} {s : HS} (h : HostAt w b s) : Calls Try.prog 31 #[.pointer (some ⟨b, 0, none⟩)] w fun e w' => e = .returned (.bool (s.st == 0)) ∧ w = w' := by
  have c8 := h.c8
  clear h
  go_enter Try.func31, Try.ntmps31
  go_wp2
  go_ret
  exact ⟨rfl, rfl⟩
theorem hnone_no {w : World} {b : Nat} {s : HS} (h : HostAt w b s) (h1 : 1 ≤ s.st) : Calls Try.prog 31 #[.pointer (some ⟨b, 0, none⟩)] w fun e w' => e = .returned (.bool false) ∧ w = w' := by
  have := hnone_any h
  rw [show (s.st == 0) = false by simp; omega] at this
  exact this
set_option maxHeartbeats 400000 in
theorem hgone_any {w : World} {b : Nat} {s : HS} (h : HostAt w b s) : Calls Try.prog 32 #[.pointer (some ⟨b, 0, none⟩)] w fun e w' => e = .returned (.bool (decide (11 ≤ s.st))) ∧ w = w' := by
  have c8 := h.c8
  clear h
  go_enter Try.func32, Try.ntmps32
  go_wp2
  go_ret
  exact ⟨rfl, rfl⟩
theorem hgone_no {w : World} {b : Nat} {s : HS} (h : HostAt w b s) (h1 : s.st ≤ 10) : Calls Try.prog 32 #[.pointer (some ⟨b, 0, none⟩)] w fun e w' => e = .returned (.bool false) ∧ w = w' := by
  have := hgone_any h
  rw [show decide (11 ≤ s.st) = false by simp; omega] at this
  exact this
theorem hgone_yes {w : World} {b : Nat} {s : HS} (h : HostAt w b s) (h1 : 11 ≤ s.st) : Calls Try.prog 32 #[.pointer (some ⟨b, 0, none⟩)] w fun e w' => e = .returned (.bool true) ∧ w = w' := by
  have := hgone_any h
  rw [show decide (11 ≤ s.st) = true by simp; omega] at this
  exact this

theorem quiet_same {P : Program} {f : FuncId} {args : Array Value} {w : World} {n : Nat} {v : Value}
    (h : Calls P f args (w.drewN n) fun e w' => e = .returned v ∧ w.drewN n = w') : Calls P f args (w.drewN n) fun e w'' => e = .returned v ∧ ∃ m, w'' = w.drewN m :=
  h.mono fun _ _ ⟨he, hm⟩ => ⟨he, n, hm.symm⟩
def HS.bytes (s : HS) : Int := addI ((s.iss + 1) % 4294967296) s.out.length
def HS.fin (s : HS) : Int := if s.closed then addI s.bytes 1 else s.bytes
theorem HS.bytes_bd (s : HS) : U32 s.bytes := addI_bd _ _
theorem HS.fin_bd (s : HS) : U32 s.fin := by unfold HS.fin; split <;> exact addI_bd _ _

set_option maxRecDepth 100000 in
set_option maxHeartbeats 1000000 in
theorem hbytes_any {w : World} {b : Nat} {s : HS} (h : HostAt w b s) (hi : U32 s.iss) (hl : s.out.length ≤ 1073741824) :
    Calls Try.prog 70 #[.pointer (some ⟨b, 0, none⟩)] w fun e w' => e = .returned (.int .u32 s.bytes) ∧ ∃ n, w' = w.drewN n := by
  have c1 := h.c1
  have c12 := h.c12
  obtain ⟨i0, i1⟩ := hi
  have ca := fun W => add_any W ((s.iss + 1) % 4294967296) s.out.length ⟨by omega, by omega⟩
  have CA := Lib.hid ca
  have hw : IntKind.u32.wrap (s.iss + 1) = (s.iss + 1) % 4294967296 := IntKind.wrap_u32 _
  have F := Lib.hid (show addI ((s.iss + 1) % 4294967296) s.out.length = s.bytes from rfl)
  clear h ca
  go_enter Try.func70, Try.ntmps70
  go_wp2_with fail
  go_quiet ((go_at_call 62; exact quiet_same (CA.out _)))
  go_wp2_with fail
  go_ret
  exact ⟨ret_i F.out, _, rfl⟩

set_option maxRecDepth 100000 in
set_option maxHeartbeats 1000000 in
theorem hend_any {w : World} {b : Nat} {s : HS} (h : HostAt w b s) (hi : U32 s.iss) (hl : s.out.length ≤ 1073741824) :
    Calls Try.prog 47 #[.pointer (some ⟨b, 0, none⟩)] w fun e w' => e = .returned (.int .u32 s.fin) ∧ ∃ n, w' = w.drewN n := by
  have c13 := h.c13
  have CB := Lib.hid (hbytes_any h hi hl)
  have hb := s.bytes_bd
  obtain ⟨h0, h1⟩ := hb
  clear h
  cases hc : s.closed
  all_goals
    have F := Lib.hid (show s.fin = if s.closed then addI s.bytes 1 else s.bytes from rfl)
    rw [hc] at c13 F
    unfold addI at F
    clear hc
    go_enter Try.func47, Try.ntmps47
    go_wp2_with fail
    refine CB.out.mono ?_
    rintro e w1 ⟨rfl, n1, rfl⟩
    go_wp2_with fail
    go_ret
    exact ⟨ret_i F.out.symm, _, rfl⟩

set_option maxHeartbeats 400000 in
theorem hsends_any {w : World} {b : Nat} {s : HS} (h : HostAt w b s) :
    Calls Try.prog 67 #[.pointer (some ⟨b, 0, none⟩)] w fun e w' => e = .returned (.bool (decide (4 ≤ s.st ∧ s.st < 10))) ∧ w = w' := by
  have c8 := h.c8
  clear h
  rcases Int.lt_or_le s.st 4 with h1 | h1
  · have F := Lib.hid (show decide (4 ≤ s.st ∧ s.st < 10) = false by simp; omega)
    have hd : decide (4 ≤ s.st) = false := by simp; omega
    go_enter Try.func67, Try.ntmps67
    go_wp2_with fail
    go_ret
    exact ⟨ret_b F.out.symm, rfl⟩
  · have F := Lib.hid (show decide (4 ≤ s.st ∧ s.st < 10) = decide (s.st < 10) by simp [h1])
    go_enter Try.func67, Try.ntmps67
    go_wp2_with fail
    go_ret
    exact ⟨ret_b F.out.symm, rfl⟩

def HS.win (s : HS) : Int := max (aheadI s.una s.edge) 0
theorem HS.win_bd (s : HS) : 0 ≤ s.win ∧ s.win ≤ 2147483647 := by have := aheadI_bd s.una s.edge; unfold HS.win; omega

set_option maxRecDepth 100000 in
set_option maxHeartbeats 1000000 in
theorem hwindow_any {w : World} {b : Nat} {s : HS} (h : HostAt w b s) (hu : U32 s.una) (he : U32 s.edge) :
    Calls Try.prog 45 #[.pointer (some ⟨b, 0, none⟩)] w fun e w' => e = .returned (.int .u32 s.win) ∧ ∃ n, w' = w.drewN n := by
  have c10 := h.c10
  have c23 := h.c23
  have CA := Lib.hid (fun W => ahead_any W s.una s.edge hu he)
  have hb := aheadI_bd s.una s.edge
  obtain ⟨b0, b1⟩ := hb
  have F0 : s.win = max (aheadI s.una s.edge) 0 := rfl
  have F1 := Lib.hid F0
  clear h F0
  generalize aheadI s.una s.edge = x at *
  rcases Int.lt_or_le x 0 with h1 | h1
  · have F := Lib.hid (show s.win = 0 by rw [F1.out]; omega)
    go_enter Try.func45, Try.ntmps45
    go_wp2_with fail
    go_quiet ((go_at_call 69; exact quiet_same (CA.out _)))
    go_wp2_with fail
    go_ret
    exact ⟨ret_i F.out.symm, _, rfl⟩
  · have F := Lib.hid (show s.win = x by rw [F1.out]; omega)
    go_enter Try.func45, Try.ntmps45
    go_wp2_with fail
    go_quiet ((go_at_call 69; exact quiet_same (CA.out _)))
    go_wp2_with fail
    go_ret
    exact ⟨ret_i F.out.symm, _, rfl⟩
end Go.Proofs.Ytgaidloicmkdaaa
