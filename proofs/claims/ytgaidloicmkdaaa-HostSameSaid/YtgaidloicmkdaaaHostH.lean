/-
  The walks of package host: Take at SynSent and behind it, Write and Close where it is Up, each over its inner call's contract. Condition: a host's numbers are in the ranges of their kinds.
-/
import Derived.Test.YtgaidloicmkdaaaHostG
namespace Go.Proofs.Ytgaidloicmkdaaa
open Go.RowKit
set_option linter.unusedVariables false
set_option linter.unusedSimpArgs false
attribute [local go_sem ↓] Go.wp_at_zero Go.wp_at_succ

set_option maxRecDepth 100000 in
set_option maxHeartbeats 1000000 in
theorem htake_syn {w : World} {b : Nat} {s : HS} (h : HostAt w b s) (hst : s.st = 2) (g : Seg) (A1 A2 : Option Addr) (n1 c1 n2 c2 : Nat) (hg : SegAt w g (.slice A1 n1 c1) (.slice A2 n2 c2)) (now : Int) (Post : Value → World → Prop)
    (hin : ∀ W, HostAt W b s → SegAt W g (.slice A1 n1 c1) (.slice A2 n2 c2) → Calls Try.prog 34 #[.pointer (some ⟨b, 0, none⟩), segV g (.slice A1 n1 c1) (.slice A2 n2 c2), .int .u64 now] W fun e w' => ∃ v, e = .returned v ∧ Post v w' ∧ Keeps [b] W w') :
    Calls Try.prog 10 #[.pointer (some ⟨b, 0, none⟩), segV g (.slice A1 n1 c1) (.slice A2 n2 c2), .int .u64 now] w fun e w' => ∃ v, e = .returned (.tuple #[v, .int .i64 0]) ∧ Post v w' ∧ Keeps [b] w w' := by
  have H := Lib.hid h
  have G := Lib.hid hg
  have HIN := Lib.hid hin
  have c8 := h.c8
  rw [hst] at c8
  have q8 := fun o => keeps_cell0 (o := o) c8
  have HN := Lib.hid (fun W (hW : HostAt W b s) => hnone_no hW (by omega))
  have HG := Lib.hid (fun W (hW : HostAt W b s) => hgone_no hW (by omega))
  clear h hg hin hst c8
  unfold segV at *
  go_enter Try.func10, Try.ntmps10
  go_wp2_with fail
  refine (HN.out _ (H.out.keep0 (Keeps.alloc _ _ _))).mono ?_
  rintro e w1 ⟨rfl, rfl⟩
  go_wp2_with fail
  refine (HG.out _ (H.out.keep0 (Keeps.alloc _ _ _))).mono ?_
  rintro e w1 ⟨rfl, rfl⟩
  go_wp2_with fail
  refine (HIN.out _ (H.out.keep0 (Keeps.alloc _ _ _)) (G.out.keep0 (Keeps.alloc _ _ _))).mono ?_
  rintro e w1 ⟨v, rfl, hp, k1⟩
  have HP := Lib.hid hp
  have K1 := Lib.hid ((Keeps.alloc [b] w _).trans k1)
  clear hp k1
  go_wp2_with fail
  go_ret2
  exact ⟨v, rfl, HP.out, K1.out⟩

set_option maxRecDepth 100000 in
set_option maxHeartbeats 1000000 in
theorem htake_open {w : World} {b : Nat} {s : HS} (h : HostAt w b s) (h3 : 3 ≤ s.st) (h10 : s.st ≤ 10) (g : Seg) (A1 A2 : Option Addr) (n1 c1 n2 c2 : Nat) (hg : SegAt w g (.slice A1 n1 c1) (.slice A2 n2 c2)) (now : Int) (Post : Value → World → Prop)
    (hin : ∀ W, HostAt W b s → SegAt W g (.slice A1 n1 c1) (.slice A2 n2 c2) → Calls Try.prog 35 #[.pointer (some ⟨b, 0, none⟩), segV g (.slice A1 n1 c1) (.slice A2 n2 c2), .int .u64 now] W fun e w' => ∃ v, e = .returned v ∧ Post v w' ∧ Keeps [b] W w') :
    Calls Try.prog 10 #[.pointer (some ⟨b, 0, none⟩), segV g (.slice A1 n1 c1) (.slice A2 n2 c2), .int .u64 now] w fun e w' => ∃ v, e = .returned (.tuple #[v, .int .i64 0]) ∧ Post v w' ∧ Keeps [b] w w' := by
  have H := Lib.hid h
  have G := Lib.hid hg
  have HIN := Lib.hid hin
  have c8 := h.c8
  have e1 : (s.st == 1) = false := by simp; omega
  have e2 : (s.st == 2) = false := by simp; omega
  have q8 := fun o => keeps_cell0 (o := o) c8
  have HN := Lib.hid (fun W (hW : HostAt W b s) => hnone_no hW (by omega))
  have HG := Lib.hid (fun W (hW : HostAt W b s) => hgone_no hW (by omega))
  clear h hg hin c8
  unfold segV at *
  go_enter Try.func10, Try.ntmps10
  go_wp2_with fail
  refine (HN.out _ (H.out.keep0 (Keeps.alloc _ _ _))).mono ?_
  rintro e w1 ⟨rfl, rfl⟩
  go_wp2_with fail
  refine (HG.out _ (H.out.keep0 (Keeps.alloc _ _ _))).mono ?_
  rintro e w1 ⟨rfl, rfl⟩
  go_wp2_with fail
  refine (HIN.out _ (H.out.keep0 (Keeps.alloc _ _ _)) (G.out.keep0 (Keeps.alloc _ _ _))).mono ?_
  rintro e w1 ⟨v, rfl, hp, k1⟩
  have HP := Lib.hid hp
  have K1 := Lib.hid ((Keeps.alloc [b] w _).trans k1)
  clear hp k1
  go_wp2_with fail
  go_ret2
  exact ⟨v, rfl, HP.out, K1.out⟩

set_option maxRecDepth 100000 in
set_option maxHeartbeats 1000000 in
theorem htake_gone {w : World} {b : Nat} {s : HS} (h : HostAt w b s) (h11 : 11 ≤ s.st) (g : Seg) (A1 A2 : Option Addr) (n1 c1 n2 c2 : Nat) (now : Int) :
    Calls Try.prog 10 #[.pointer (some ⟨b, 0, none⟩), segV g (.slice A1 n1 c1) (.slice A2 n2 c2), .int .u64 now] w fun e w' => e = .returned (.tuple #[.slice none 0 0, .int .i64 0]) ∧ Keeps [] w w' := by
  have H := Lib.hid h
  have HN := Lib.hid (fun W (hW : HostAt W b s) => hnone_no hW (by omega))
  have HG := Lib.hid (fun W (hW : HostAt W b s) => hgone_yes hW h11)
  clear h
  unfold segV at *
  go_enter Try.func10, Try.ntmps10
  go_wp2_with fail
  refine (HN.out _ (H.out.keep0 (Keeps.alloc _ _ _))).mono ?_
  rintro e w1 ⟨rfl, rfl⟩
  go_wp2_with fail
  refine (HG.out _ (H.out.keep0 (Keeps.alloc _ _ _))).mono ?_
  rintro e w1 ⟨rfl, rfl⟩
  go_wp2_with fail
  go_ret2
  exact ⟨rfl, Keeps.alloc _ _ _⟩

set_option maxRecDepth 100000 in
set_option maxHeartbeats 1000000 in
theorem hwrite_up {w : World} {b : Nat} {s : HS} (h : HostAt w b s) (hst : s.st = 4) (hcl : s.closed = false) (hol : s.out.length ≤ 131072) (A : Option Addr) (c : Nat) (l : List UInt8) (hl : BytesV w (.slice A l.length c) l) (hlen : s.out.length + l.length ≤ 131072) (now : Int) (Post : Value → World → Prop)
    (hin : ∀ W Ao co, HostAt W b { s with outA := Ao, out := s.out ++ l, outC := co } → Calls Try.prog 43 #[.pointer (some ⟨b, 0, none⟩), .int .u64 now] W fun e w' => ∃ v, e = .returned v ∧ Post v w' ∧ Keeps [b] W w') :
    Calls Try.prog 20 #[.pointer (some ⟨b, 0, none⟩), .slice A l.length c, .int .u64 now] w fun e w' => ∃ v, e = .returned (.tuple #[v, .int .i64 0]) ∧ Post v w' ∧ Keeps [b] w w' := by
  have H := Lib.hid h
  have HIN := Lib.hid hin
  have HL := Lib.hid hl
  have c8 := h.c8
  rw [hst] at c8
  have c13 := h.c13
  rw [hcl] at c13
  have c12 := h.c12
  have HN := Lib.hid (hnone_no h (by omega))
  clear h hin hst hcl hl
  go_enter Try.func20, Try.ntmps20
  go_wp2_with fail
  refine HN.out.mono ?_
  rintro e w1 ⟨rfl, rfl⟩
  go_wp2_with fail
  refine (concat_any _ w.heap.size s.outA A s.out.length s.outC l.length c s.out l (by simp) (by simp) (H.out.out.keep0 (Keeps.alloc _ _ _)) (HL.out.keep0 (Keeps.alloc _ _ _)) (by omega) (by omega)).mono ?_
  rintro e w2 ⟨v, rfl, b2, k2⟩
  obtain ⟨Ao, co, rfl⟩ := b2.slice
  have k2' := (Keeps.alloc [] w (.cells #[.slice s.outA s.out.length s.outC, .slice A l.length c] 28)).trans k2
  have H2 := Lib.hid (H.out.keep0 k2')
  have K2 := Lib.hid k2'
  have B2 := Lib.hid b2
  have f12 := H2.out.fz 12
  have c12' := H2.out.c12
  clear k2 k2' b2 c8 c13 c12
  go_wp2_with fail
  refine (HIN.out _ Ao co (by have h' := H2.out.s12 Ao _ co B2.out; rw [List.length_append] at h'; exact h')).mono ?_
  rintro e w3 ⟨v, rfl, hp, k3⟩
  have HP := Lib.hid hp
  have K3 := Lib.hid (((K2.out.mono (T := [b]) (by simp)).trans (Keeps.setCell _ ⟨b, 12, none⟩ _)).trans k3)
  clear hp k3
  go_wp2_with fail
  go_ret2
  exact ⟨v, rfl, HP.out, K3.out⟩

set_option maxRecDepth 100000 in
set_option maxHeartbeats 1000000 in
theorem hclose_up {w : World} {b : Nat} {s : HS} (h : HostAt w b s) (hst : s.st = 4) (hcl : s.closed = false) (now : Int) (Post : Value → World → Prop)
    (hin : ∀ W, HostAt W b { s with closed := true, st := 5 } → Calls Try.prog 43 #[.pointer (some ⟨b, 0, none⟩), .int .u64 now] W fun e w' => ∃ v, e = .returned v ∧ Post v w' ∧ Keeps [b] W w') :
    Calls Try.prog 21 #[.pointer (some ⟨b, 0, none⟩), .int .u64 now] w fun e w' => ∃ v, e = .returned (.tuple #[v, .int .i64 0]) ∧ Post v w' ∧ Keeps [b] w w' := by
  have H := Lib.hid h
  have HIN := Lib.hid hin
  have c8 := h.c8
  rw [hst] at c8
  have c13 := h.c13
  rw [hcl] at c13
  have f8 := h.fz 8
  have f13 := h.fz 13
  have HN := Lib.hid (hnone_no h (by omega))
  clear h hin hst hcl
  go_enter Try.func21, Try.ntmps21
  go_wp2_with fail
  refine HN.out.mono ?_
  rintro e w1 ⟨rfl, rfl⟩
  go_wp2_with fail
  refine (HIN.out _ ((H.out.s13 true).s8 5)).mono ?_
  rintro e w3 ⟨v, rfl, hp, k3⟩
  have HP := Lib.hid hp
  have K3 := Lib.hid (((Keeps.setCell w ⟨b, 13, none⟩ _).trans (Keeps.setCell _ ⟨b, 8, none⟩ _)).trans k3)
  clear hp k3
  go_wp2_with fail
  go_ret2
  exact ⟨v, rfl, HP.out, K3.out⟩
end Go.Proofs.Ytgaidloicmkdaaa
