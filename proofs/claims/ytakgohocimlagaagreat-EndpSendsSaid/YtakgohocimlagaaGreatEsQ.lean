/-
  The walks of an end towards a server (1): Alarm. Condition: an end's numbers are in the ranges of their kinds. The walks of an end towards a server (2): Done. Condition: an end's numbers are in the ranges of their kinds. The walks of package endp towards a server (3): Ack, laid. Condition: an end's numbers, a buffer's are in the ranges of their kinds. The walks of package endp towards a server (4): laid. Condition: as Ack's. The walks of package endp towards a server (5): send. Condition: as Ack's. The walks of package endp towards a server (6): server at an ACK without data that is accepted. Condition: as Ack's. The walks of package endp towards a server (7): Take where it is open; Tick where it is time. Condition: as Ack's. The walks of package endp towards a server (8): Tick where it is time and tries are left. Condition: as Ack's. The walks of package endp towards a server (9): Write where Opening, where open. Condition: as Ack's. The walks of package endp towards a server (10): Tick where it is time and no tries are left. Condition: as Ack's. The walks of package endp towards a server (11): Done where Opening. Condition: as Ack's. Printed by program. The walks of package endp towards a server (16): segments as they lie, in rows. No condition.
-/
import Derived.Test.YtakgohocimlagaaGreatRxQ
namespace Go.Proofs.YtakgohocimlagaaGreat
open Go.RowKit
set_option linter.unusedVariables false
set_option linter.unusedSimpArgs false

set_option maxHeartbeats 1000000 in
theorem ealarm_opening {w : World} {x : Nat} {s : ES} (h : EndAt w x s) (hst : s.st = 1) (hi : s.inp = .pointer none) :
    Calls Tryz.prog 20 #[.pointer (some ⟨x, 0, none⟩)] w fun e w' => e = .returned (.tuple #[.int .u64 s.alarm, .bool true]) ∧ w = w' := by
  have CN := Lib.hid (enone_no h (by omega))
  have CO := Lib.hid (eover_no h (by omega) (by omega))
  have c16 := h.c16
  have c15 := h.c15
  have c21 := h.c21
  rw [hi] at c16
  rw [hst] at c15
  clear h hst hi
  go_enter Tryz.func20, Tryz.ntmps20
  go_wp2_with fail
  refine CN.out.mono ?_
  rintro e w1 ⟨rfl, rfl⟩
  go_wp2_with fail
  refine CO.out.mono ?_
  rintro e w1 ⟨rfl, rfl⟩
  go_wp2_with fail
  go_ret2
  exact ⟨rfl, rfl⟩
set_option maxHeartbeats 1000000 in
theorem ealarm_open {w : World} {x r : Nat} {s : ES} {X : RX} (h : EndAt w x s) (hst : s.st = 2) (hi : s.inp = .pointer none) (ho : s.out = .pointer (some ⟨r, 0, none⟩)) (hx : RxAt w r X) (hr : 1 ≤ X.rto) (hl : 0 < X.data.length) :
    Calls Tryz.prog 20 #[.pointer (some ⟨x, 0, none⟩)] w fun e w' => e = .returned (.tuple #[.int .u64 X.alarm, .bool true]) ∧ w = w' := by
  have CN := Lib.hid (enone_no h (by omega))
  have CO := Lib.hid (eover_no h (by omega) (by omega))
  have CX := Lib.hid (xalarm_some hx hr hl)
  have c16 := h.c16
  have c15 := h.c15
  have c19 := h.c19
  rw [hi] at c16
  rw [hst] at c15
  rw [ho] at c19
  clear h hst hi ho hx
  go_enter Tryz.func20, Tryz.ntmps20
  go_wp2_with fail
  refine CN.out.mono ?_
  rintro e w1 ⟨rfl, rfl⟩
  go_wp2_with fail
  refine CO.out.mono ?_
  rintro e w1 ⟨rfl, rfl⟩
  go_wp2_with fail
  refine CX.out.mono ?_
  rintro e w1 ⟨rfl, rfl⟩
  go_wp2_with fail
  go_ret2
  exact ⟨rfl, rfl⟩
set_option maxHeartbeats 1000000 in
theorem ealarm_open_none {w : World} {x r : Nat} {s : ES} {X : RX} (h : EndAt w x s) (hst : s.st = 2) (hi : s.inp = .pointer none) (ho : s.out = .pointer (some ⟨r, 0, none⟩)) (hx : RxAt w r X) (hr : 1 ≤ X.rto) (hl : X.data.length = 0) :
    Calls Tryz.prog 20 #[.pointer (some ⟨x, 0, none⟩)] w fun e w' => e = .returned (.tuple #[.int .u64 0, .bool false]) ∧ w = w' := by
  have CN := Lib.hid (enone_no h (by omega))
  have CO := Lib.hid (eover_no h (by omega) (by omega))
  have CX := Lib.hid (xalarm_none hx hr hl)
  have c16 := h.c16
  have c15 := h.c15
  have c19 := h.c19
  rw [hi] at c16
  rw [hst] at c15
  rw [ho] at c19
  clear h hst hi ho hx
  go_enter Tryz.func20, Tryz.ntmps20
  go_wp2_with fail
  refine CN.out.mono ?_
  rintro e w1 ⟨rfl, rfl⟩
  go_wp2_with fail
  refine CO.out.mono ?_
  rintro e w1 ⟨rfl, rfl⟩
  go_wp2_with fail
  refine CX.out.mono ?_
  rintro e w1 ⟨rfl, rfl⟩
  go_wp2_with fail
  go_ret2
  exact ⟨rfl, rfl⟩
end Go.Proofs.YtakgohocimlagaaGreat

namespace Go.Proofs.YtakgohocimlagaaGreat
open Go.RowKit
set_option linter.unusedVariables false
set_option linter.unusedSimpArgs false

set_option maxHeartbeats 2000000 in
theorem edone_open {w : World} {x r : Nat} {s : ES} {X : RX} (h : EndAt w x s) (hst : s.st = 2) (ho : s.out = .pointer (some ⟨r, 0, none⟩)) (hx : RxAt w r X) (ok : X.Ok) :
    Calls Tryz.prog 23 #[.pointer (some ⟨x, 0, none⟩)] w fun e w' => e = .returned (.bool (X.una == addI X.una X.data.length)) ∧ Keeps [] w w' := by
  have CN := Lib.hid (fun W (k : Keeps [] w W) => enone_no (h.keep0 k) (by omega))
  have CU := Lib.hid (fun W (k : Keeps [] w W) => xuna_any (hx.keep0 k) ok.rto.1)
  have CE := Lib.hid (fun W (k : Keeps [] w W) => xend_any (hx.keep0 k) ok)
  have c15 := h.c15
  have c19 := h.c19
  rw [hst] at c15
  rw [ho] at c19
  clear h hst ho hx ok
  go_enter Tryz.func23, Tryz.ntmps23
  go_upto_region 1 with fail
  go_region_held3 (fun w' => w'.cell? ⟨x, 15, none⟩ = some (.int .i64 2) ∧ w'.cell? ⟨x, 19, none⟩ = some (.pointer (some ⟨r, 0, none⟩))) ((refine (fun kx => ⟨cell_keeps kx c15 (by simp), cell_keeps kx c19 (by simp)⟩ : Keeps [] w _ → _) ?_; (repeat (first | with_reducible assumption | with_reducible exact Keeps.refl _ _ | with_reducible apply Keeps.alloc' | with_reducible apply Keeps.drew' | with_reducible apply Keeps.drewN' | (with_reducible apply Keeps.setCell'; rotate_left; · simp))))) (first | (go_at_call 30; (with_reducible refine (CN.out _ (Keeps.drew [] w)).mono ?_); rintro e w2 ⟨rfl, rfl⟩) | (go_at_call 51; (with_reducible refine (CU.out _ (Keeps.drew [] w)).mono ?_); rintro e w2 ⟨rfl, rfl⟩) | (go_at_call 52; (with_reducible refine (CE.out _ (Keeps.drew [] w)).mono ?_); rintro e w3 ⟨rfl, k3⟩; have kz : Keeps [] w w3 := (Keeps.drew [] w).trans k3; clear k3) | fail)
  go_wp2_with fail
  go_ret
  exact ⟨rfl, kz⟩
end Go.Proofs.YtakgohocimlagaaGreat

namespace Go.Proofs.YtakgohocimlagaaGreat
open Go.RowKit
set_option linter.unusedVariables false
set_option linter.unusedSimpArgs false

/-- Its ACK, towards a server. -/
def ES.ackS (s : ES) (X : RX) : Seg := ⟨s.loc, s.rem, addI X.una X.sent, (s.irs + 1) % 4294967296, 16, 0, 0, [], []⟩
set_option maxRecDepth 100000 in
set_option maxHeartbeats 2000000 in
theorem eackS_any {w : World} {x r : Nat} {s : ES} {X : RX} (h : EndAt w x s) (hst : s.st = 2) (hi : s.inp = .pointer none) (ho : s.out = .pointer (some ⟨r, 0, none⟩)) (hx : RxAt w r X) (okx : X.Ok) :
    Calls Tryz.prog 10 #[.pointer (some ⟨x, 0, none⟩)] w fun e w' => e = .returned (segV (s.ackS X) (.slice none 0 0) (.slice none 0 0)) ∧ Keeps [] w w' := by
  have H := Lib.hid h
  have HX := Lib.hid hx
  have OX := Lib.hid okx
  have e1 : (s.st == 1) = false := by simp; omega
  have hst1 : 1 ≤ s.st := by omega
  obtain ⟨ia, hia⟩ : ∃ ia, (s.irs + 1) % 4294967296 = ia := ⟨_, rfl⟩
  have hwi : IntKind.u32.wrap (s.irs + 1) = ia := by rw [← hia]; exact IntKind.wrap_u32 _
  obtain ⟨nx, hnx⟩ : ∃ nx, addI X.una X.sent = nx := ⟨_, rfl⟩
  unfold ES.ackS
  rw [hnx, hia]
  have HNX := Lib.hid hnx
  clear h hx okx hnx hia hst
  unfold segV
  go_enter Tryz.func10, Tryz.ntmps10
  go_wp2_with fail
  refine (enone_no (H.out.keep0 (Keeps.alloc _ _ _)) hst1).mono ?_
  rintro e w1 ⟨rfl, rfl⟩
  have HA := Lib.hid (H.out.keep0 (Keeps.alloc [] w (.cells #[.int .u16 0, .int .u16 0, .int .u32 0, .int .u32 0, .int .u8 0, .int .u16 0, .int .u16 0, .slice none 0 0, .slice none 0 0] 39)))
  have c15 := HA.out.c15
  have c16 := HA.out.c16
  have c19 := HA.out.c19
  rw [hi] at c16
  rw [ho] at c19
  have hlt := H.out.lt
  clear HA
  go_wp2_with fail
  refine (ebare_any (H.out.keep0 (Keeps.alloc _ _ _))).mono ?_
  rintro e w1 ⟨rfl, k1⟩
  unfold ES.bare segV
  have hz := (k1.block w.heap.size (by simp) (by simp)).trans (MapKept.heap_alloc w _).1
  have HZ := Lib.hid hz
  have K1 := Lib.hid ((Keeps.alloc [] w _).trans k1)
  clear k1 hz c15 c16 c19
  have H1 := Lib.hid (H.out.keep0 K1.out)
  have HX1 := Lib.hid (HX.out.keep0 K1.out)
  have c16 := H1.out.c16
  rw [hi] at c16
  have p16 := fun o => keeps_cell0 (o := o) c16
  go_upto_region 11 with fail
  refine wp_gn (fun W0 hW0 => ?_)
  have h2z : W0.heap[w1.heap.size]? = some (.cells #[.int .u16 s.loc, .int .u16 s.rem, .int .u32 0, .int .u32 0, .int .u8 16, .int .u16 0, .int .u16 0, .slice none 0 0, .slice none 0 0] 39 (0, 0)) := by rw [hW0]; exact (MapKept.heap_alloc w1 _).1
  have k2 : Keeps [] w1 W0 := by rw [hW0]; exact (Keeps.refl _ _).alloc' _
  have HX2 := Lib.hid (HX1.out.keep0 k2)
  have H2 := Lib.hid (H1.out.keep0 k2)
  have d10 := H2.out.c10
  have d19 := H2.out.c19
  rw [ho] at d19
  have K2 := Lib.hid k2
  have H2Z := Lib.hid h2z
  have e2 := cell_of_block h2z 2
  have e3 := cell_of_block h2z 3
  have f2 := free_of_block h2z 2
  have f3 := free_of_block h2z 3
  simp at e2 e3
  clear k2 hW0 h2z c16 p16
  have hzl : w1.heap.size < W0.heap.size := lt_of_block H2Z.out
  have hxl : x < w1.heap.size := H1.out.lt
  go_region_held3 (fun w' => w'.cell? ⟨x, 10, none⟩ = some (.int .u32 s.irs) ∧ w'.cell? ⟨x, 19, none⟩ = some (.pointer (some ⟨r, 0, none⟩))) ((refine (fun kx => ⟨cell_keeps kx d10 (by simp; omega), cell_keeps kx d19 (by simp; omega)⟩ : Keeps [w1.heap.size] W0 _ → _) ?_; (repeat (first | with_reducible assumption | with_reducible exact Keeps.refl _ _ | with_reducible apply Keeps.alloc' | with_reducible apply Keeps.drew' | with_reducible apply Keeps.drewN' | (with_reducible apply Keeps.setCell'; rotate_left; · simp))))) (first | (go_at_call 37; (with_reducible refine (xnxt_any (HX2.out.keep0 (Keeps.drew [] _)) OX.out).mono ?_); rintro e w3 ⟨rfl, k3⟩; have kw3 : Keeps [] W0 w3 := Keeps.trans (Keeps.drew [] _) k3; have kx3 : Keeps [w1.heap.size] W0 w3 := kw3.mono (by simp); have e23 := cell_keeps kw3 e2 (by simp); have e33 := cell_keeps kw3 e3 (by simp); have hz3 := (kw3.block _ hzl (by simp)).trans H2Z.out; have f23 := free_of_block hz3 2; have f33 := free_of_block hz3 3; clear k3) | fail)
  all_goals
    rw [HNX.out]
    go_upto_region 12 with fail
    refine wp_gn (fun W hW => ?_)
    have hx : W.heap[w1.heap.size]? = some (.cells #[.int .u16 s.loc, .int .u16 s.rem, .int .u32 nx, .int .u32 ia, .int .u8 16, .int .u16 0, .int .u16 0, .slice none 0 0, .slice none 0 0] 39 (0, 0)) := by rw [hW]; exact heap_setCell_self (heap_setCell_self hz3 2 _) 3 _
    have k4 : Keeps [] w1 W := by rw [hW]; exact ((K2.out.trans kw3).setCell' (Or.inl (Nat.le_refl _)) _).setCell' (Or.inl (Nat.le_refl _)) _
    have hr := (k4.block w.heap.size ((Array.getElem?_eq_some_iff.1 HZ.out).1) (by simp)).trans HZ.out
    have KW := Lib.hid (K1.out.trans k4)
    clear hW k4 kw3 kx3 e23 e33 f23 f33 hz3 d10 d19 e2 e3 f2 f3
    have hxc0 := cell_of_block hx 0
    have hxc1 := cell_of_block hx 1
    have hxc2 := cell_of_block hx 2
    have hxc3 := cell_of_block hx 3
    have hxc4 := cell_of_block hx 4
    have hxc5 := cell_of_block hx 5
    have hxc6 := cell_of_block hx 6
    have hxc7 := cell_of_block hx 7
    have hxc8 := cell_of_block hx 8
    simp at hxc0 hxc1 hxc2 hxc3 hxc4 hxc5 hxc6 hxc7 hxc8
    have hxf0 := free_of_block hx 0
    have hxf1 := free_of_block hx 1
    have hxf2 := free_of_block hx 2
    have hxf3 := free_of_block hx 3
    have hxf4 := free_of_block hx 4
    have hxf5 := free_of_block hx 5
    have hxf6 := free_of_block hx 6
    have hxf7 := free_of_block hx 7
    have hxf8 := free_of_block hx 8
    have hrc0 := cell_of_block hr 0
    have hrc1 := cell_of_block hr 1
    have hrc2 := cell_of_block hr 2
    have hrc3 := cell_of_block hr 3
    have hrc4 := cell_of_block hr 4
    have hrc5 := cell_of_block hr 5
    have hrc6 := cell_of_block hr 6
    have hrc7 := cell_of_block hr 7
    have hrc8 := cell_of_block hr 8
    simp at hrc0 hrc1 hrc2 hrc3 hrc4 hrc5 hrc6 hrc7 hrc8
    have hrf0 := free_of_block hr 0
    have hrf1 := free_of_block hr 1
    have hrf2 := free_of_block hr 2
    have hrf3 := free_of_block hr 3
    have hrf4 := free_of_block hr 4
    have hrf5 := free_of_block hr 5
    have hrf6 := free_of_block hr 6
    have hrf7 := free_of_block hr 7
    have hrf8 := free_of_block hr 8
    clear hx hr
    go_wp2_with fail
    refine bodyPost_ret (v := .agg #[.int .u16 s.loc, .int .u16 s.rem, .int .u32 nx, .int .u32 ia, .int .u8 16, .int .u16 0, .int .u16 0, .slice none 0 0, .slice none 0 0]) (by simp [results, Tryz.results10, go_sem, hrc0, hrc1, hrc2, hrc3, hrc4, hrc5, hrc6, hrc7, hrc8]) rfl ⟨rfl, ?_⟩
    exact (((((((((KW.out.setCell' (Or.inl (by simp)) _).setCell' (Or.inl (by simp)) _).setCell' (Or.inl (by simp)) _).setCell' (Or.inl (by simp)) _).setCell' (Or.inl (by simp)) _).setCell' (Or.inl (by simp)) _).setCell' (Or.inl (by simp)) _).setCell' (Or.inl (by simp)) _).setCell' (Or.inl (by simp)) _)
end Go.Proofs.YtakgohocimlagaaGreat

namespace Go.Proofs.YtakgohocimlagaaGreat
open Go.RowKit
set_option linter.unusedVariables false
set_option linter.unusedSimpArgs false

/-- a segment of a piece -/
def lvV (s : ES) (q : Int) (A : Option Addr) (n c : Nat) : Value := .agg #[.int .u16 s.loc, .int .u16 s.rem, .int .u32 q, .int .u32 ((s.irs + 1) % 4294967296), .int .u8 24, .int .u16 0, .int .u16 0, .slice none 0 0, .slice A n c]
set_option maxRecDepth 100000 in
set_option maxHeartbeats 2000000 in
theorem elaid_any {w : World} {x r : Nat} {s : ES} {X : RX} (h : EndAt w x s) (hst : s.st = 2) (hi : s.inp = .pointer none) (ho : s.out = .pointer (some ⟨r, 0, none⟩)) (hx : RxAt w r X) (okx : X.Ok) (q : Int) (A : Option Addr) (n c : Nat) :
    Calls Tryz.prog 46 #[.pointer (some ⟨x, 0, none⟩), .agg #[.int .u32 q, .slice A n c]] w fun e w' => e = .returned (lvV s q A n c) ∧ Keeps [] w w' := by
  have CA := Lib.hid (fun W (k : Keeps [] w W) => eackS_any (h.keep0 k) hst hi ho (hx.keep0 k) okx)
  clear h hst hi ho hx okx
  obtain ⟨ia, hia⟩ : ∃ ia, (s.irs + 1) % 4294967296 = ia := ⟨_, rfl⟩
  unfold lvV
  unfold ES.ackS segV at CA
  simp only [hia] at CA
  rw [hia]
  clear hia
  go_enter Tryz.func46, Tryz.ntmps46
  go_wp2_with fail
  refine (CA.out _ (by (repeat (first | with_reducible assumption | with_reducible exact Keeps.refl _ _ | with_reducible apply Keeps.alloc' | with_reducible apply Keeps.drew' | with_reducible apply Keeps.drewN' | (with_reducible apply Keeps.setCell'; rotate_left; · simp))))).mono ?_
  rintro e w1 ⟨rfl, k1⟩
  have hbk := two_allocs w (.cells #[.int .u32 q, .slice A n c] 82) (.cells #[.int .u16 0, .int .u16 0, .int .u32 0, .int .u32 0, .int .u8 0, .int .u16 0, .int .u16 0, .slice none 0 0, .slice none 0 0] 39)
  have hz0 := (k1.block w.heap.size (lt_of_block hbk.1) (by simp)).trans hbk.1
  have hz1 := (k1.block (w.heap.size + 1) (lt_of_block hbk.2) (by simp)).trans hbk.2
  have kw1 : Keeps [] w w1 := Keeps.trans (by (repeat (first | with_reducible assumption | with_reducible exact Keeps.refl _ _ | with_reducible apply Keeps.alloc' | with_reducible apply Keeps.drew' | with_reducible apply Keeps.drewN' | (with_reducible apply Keeps.setCell'; rotate_left; · simp)))) k1
  have HZ := Lib.hid (And.intro hz0 hz1)
  have K1 := Lib.hid kw1
  clear hbk hz0 hz1 kw1 k1 CA
  go_upto_region 2 with fail
  refine wp_gn (fun W0 hW0 => ?_)
  have k2 : Keeps [] w1 W0 := by rw [hW0]; exact (Keeps.refl _ _).alloc' _
  have h5 : W0.heap[w1.heap.size]? = some (.cells #[.int .u16 s.loc, .int .u16 s.rem, .int .u32 (addI X.una X.sent), .int .u32 ia, .int .u8 16, .int .u16 0, .int .u16 0, .slice none 0 0, .slice none 0 0] 39 (0, 0)) := by rw [hW0]; exact (MapKept.heap_alloc w1 _).1
  have hb := (k2.block w.heap.size (lt_of_block HZ.out.1) (by simp)).trans HZ.out.1
  have HB := Lib.hid hb
  have H5 := Lib.hid h5
  have K2 := Lib.hid k2
  have d0 := cell_of_block hb 0
  have d1 := cell_of_block hb 1
  have e2 := cell_of_block h5 2
  have e4 := cell_of_block h5 4
  have e8 := cell_of_block h5 8
  have f2 := free_of_block h5 2
  have f4 := free_of_block h5 4
  have f8 := free_of_block h5 8
  simp at d0 d1 e2 e4 e8
  have hlt : w.heap.size < w1.heap.size := lt_of_block HZ.out.1
  clear k2 hW0 h5 hb
  go_region_held3 (fun w' => w'.cell? ⟨w.heap.size, 0, none⟩ = some (.int .u32 q) ∧ w'.cell? ⟨w.heap.size, 1, none⟩ = some (.slice A n c)) ((refine (fun kx => ⟨cell_keeps kx d0 (by simp; omega), cell_keeps kx d1 (by simp; omega)⟩ : Keeps [w1.heap.size] W0 _ → _) ?_; (repeat (first | with_reducible assumption | with_reducible exact Keeps.refl _ _ | with_reducible apply Keeps.alloc' | with_reducible apply Keeps.drew' | with_reducible apply Keeps.drewN' | (with_reducible apply Keeps.setCell'; rotate_left; · simp))))) (fail)
  all_goals
    go_upto_region 3 with fail
    refine wp_gn (fun W hW => ?_)
    have hx : W.heap[w1.heap.size]? = some (.cells #[.int .u16 s.loc, .int .u16 s.rem, .int .u32 q, .int .u32 ia, .int .u8 24, .int .u16 0, .int .u16 0, .slice none 0 0, .slice A n c] 39 (0, 0)) := by rw [hW]; exact heap_setCell_self (heap_setCell_self (heap_setCell_self H5.out 2 _) 8 _) 4 _
    have k4 : Keeps [] w1 W := by rw [hW]; exact (((K2.out.setCell' (Or.inl (Nat.le_refl _)) _).setCell' (Or.inl (Nat.le_refl _)) _).setCell' (Or.inl (Nat.le_refl _)) _).drew'
    have hr := (k4.block (w.heap.size + 1) (lt_of_block HZ.out.2) (by simp)).trans HZ.out.2
    have KW := Lib.hid (K1.out.trans k4)
    clear hW k4 d0 d1 e2 e4 e8 f2 f4 f8
    have hxc0 := cell_of_block hx 0
    have hxc1 := cell_of_block hx 1
    have hxc2 := cell_of_block hx 2
    have hxc3 := cell_of_block hx 3
    have hxc4 := cell_of_block hx 4
    have hxc5 := cell_of_block hx 5
    have hxc6 := cell_of_block hx 6
    have hxc7 := cell_of_block hx 7
    have hxc8 := cell_of_block hx 8
    simp at hxc0 hxc1 hxc2 hxc3 hxc4 hxc5 hxc6 hxc7 hxc8
    have hxf0 := free_of_block hx 0
    have hxf1 := free_of_block hx 1
    have hxf2 := free_of_block hx 2
    have hxf3 := free_of_block hx 3
    have hxf4 := free_of_block hx 4
    have hxf5 := free_of_block hx 5
    have hxf6 := free_of_block hx 6
    have hxf7 := free_of_block hx 7
    have hxf8 := free_of_block hx 8
    have hrc0 := cell_of_block hr 0
    have hrc1 := cell_of_block hr 1
    have hrc2 := cell_of_block hr 2
    have hrc3 := cell_of_block hr 3
    have hrc4 := cell_of_block hr 4
    have hrc5 := cell_of_block hr 5
    have hrc6 := cell_of_block hr 6
    have hrc7 := cell_of_block hr 7
    have hrc8 := cell_of_block hr 8
    simp at hrc0 hrc1 hrc2 hrc3 hrc4 hrc5 hrc6 hrc7 hrc8
    have hrf0 := free_of_block hr 0
    have hrf1 := free_of_block hr 1
    have hrf2 := free_of_block hr 2
    have hrf3 := free_of_block hr 3
    have hrf4 := free_of_block hr 4
    have hrf5 := free_of_block hr 5
    have hrf6 := free_of_block hr 6
    have hrf7 := free_of_block hr 7
    have hrf8 := free_of_block hr 8
    clear hx hr
    go_wp2_with fail
    refine bodyPost_ret (v := .agg #[.int .u16 s.loc, .int .u16 s.rem, .int .u32 q, .int .u32 ia, .int .u8 24, .int .u16 0, .int .u16 0, .slice none 0 0, .slice A n c]) (by simp [results, Tryz.results46, go_sem, hrc0, hrc1, hrc2, hrc3, hrc4, hrc5, hrc6, hrc7, hrc8]) rfl ⟨rfl, ?_⟩
    exact (((((((((KW.out.setCell' (Or.inl (by simp)) _).setCell' (Or.inl (by simp)) _).setCell' (Or.inl (by simp)) _).setCell' (Or.inl (by simp)) _).setCell' (Or.inl (by simp)) _).setCell' (Or.inl (by simp)) _).setCell' (Or.inl (by simp)) _).setCell' (Or.inl (by simp)) _).setCell' (Or.inl (by simp)) _)
end Go.Proofs.YtakgohocimlagaaGreat

namespace Go.Proofs.YtakgohocimlagaaGreat
open Go.RowKit Go.Lib
set_option linter.unusedVariables false
set_option linter.unusedSimpArgs false

def sgC (s : ES) (x : PC) : List Value := [.int .u16 s.loc, .int .u16 s.rem, .int .u32 x.sq, .int .u32 ((s.irs + 1) % 4294967296), .int .u8 24, .int .u16 0, .int .u16 0, .slice none 0 0, .slice x.A x.n x.c]
/-- pieces as segments -/
def segK (s : ES) : EK PC := ⟨sgC s, 9, fun _ => rfl, by decide, fun x u h => by
  simp only [sgC, List.mem_cons, List.not_mem_nil, or_false] at h
  rcases h with rfl | rfl | rfl | rfl | rfl | rfl | rfl | rfl | rfl <;> rfl⟩
theorem Tryz.infoSeg : (Tryz.prog.info? 39).map (fun i => (i.zero, i.size, i.bytes)) = some (some (.agg #[.int .u16 0, .int .u16 0, .int .u32 0, .int .u32 0, .int .u8 0, .int .u16 0, .int .u16 0, .slice none 0 0, .slice none 0 0]), 9, 72) := by kernel_rfl
theorem seg_one {w : World} {b : Nat} {s : ES} {x : PC} {t : TypeId} {z : Nat × Nat} (h : w.heap[b]? = some (.cells #[.int .u16 s.loc, .int .u16 s.rem, .int .u32 x.sq, .int .u32 ((s.irs + 1) % 4294967296), .int .u8 24, .int .u16 0, .int .u16 0, .slice none 0 0, .slice x.A x.n x.c] t z)) : (segK s).At w (some ⟨b, 0, none⟩) [x] := by
  refine .inr ⟨b, 0, rfl, fun i y hy j u hu => ?_⟩
  have hi : i = 0 := by have := (List.getElem?_eq_some_iff.1 hy).1; simp at this; exact this
  subst hi
  simp at hy
  subst hy
  have hc := cell_of_block h j
  simp only [Nat.zero_mul, Nat.zero_add]
  rw [hc]
  have hu' : (sgC s x)[j]? = some u := hu
  unfold sgC at hu'
  simpa using hu'
theorem cutsR_len {una : Int} {l : List UInt8} {mss e : Nat} : ∀ {k f : Nat}, (cutsR k una l mss f e).length ≤ k
  | 0, f => Nat.le_refl _
  | k + 1, f => by
    unfold cutsR
    split
    · have := cutsR_len (una := una) (l := l) (mss := mss) (e := e) (k := k) (f := min (f + mss) e)
      simp only [List.length_cons]
      omega
    · simp
theorem PcsV.newrow {base : Nat} {w w' : World} {own own' : Option Nat} {l : List PC} {ps : List (Int × List UInt8)} (h : PcsV base w own l ps) (k : Keeps [] w w') (hn : ∀ j, own' = some j → w.heap.size ≤ j) : PcsV base w' own' l ps :=
  ⟨h.1, fun i x p hx hp => by
    obtain ⟨h1, h2, h3, h4, h5⟩ := h.2 i x p hx hp
    refine ⟨h1, h2, h3, h4.keep0 k, fun a ha => ⟨(h5 a ha).1, fun he => ?_⟩⟩
    have hj := hn a.block he
    obtain ⟨gb, o, e2, hc⟩ := h4.get (by omega)
    rw [e2] at ha
    cases ha
    have := lt_of_cell (hc 0 _ (List.getElem?_eq_getElem h3))
    simp at hj this
    omega⟩
set_option maxRecDepth 100000 in
set_option maxHeartbeats 4000000 in
theorem esend_ok {w : World} {x r : Nat} {s : ES} {X : RX} (h : EndAt w x s) (hst : s.st = 2) (hi : s.inp = .pointer none) (ho : s.out = .pointer (some ⟨r, 0, none⟩)) (hx : RxAt w r X) (okx : X.Ok) (M : Nat) (hm : s.mss = M) (m0 : 1 ≤ M) (m1 : M ≤ 1460) (hxr : x ≠ r) :
    Calls Tryz.prog 50 #[.pointer (some ⟨x, 0, none⟩)] w fun e w' => ∃ v l, e = .returned v ∧ (segK s).Own w' w.heap.size 39 v l ∧ PcsV w.heap.size w' v.ownBlock l (cutsR X.sendE X.una X.data M X.sent.toNat X.sendE) ∧ RxAt w' r { X with sent := max X.sent X.sendE } ∧ EndAt w' x s ∧ Keeps [r] w w' := by
  have CS := Lib.hid (fun W (k : Keeps [] w W) => xsend_ok (hx.keep0 k) okx M m0 (by omega))
  have ok2 : ({ X with sent := max X.sent X.sendE } : RX).Ok := ⟨okx.una, okx.len, by have := okx.sent; have := okx.win; simp only [RX.sendE]; omega, okx.win, okx.rto, okx.tries, okx.cnt⟩
  have OK2 := Lib.hid ok2
  have H := Lib.hid h
  have HST := Lib.hid (And.intro hst (And.intro hi ho))
  have c11 := h.c11
  have c19 := h.c19
  rw [hm] at c11
  rw [ho] at c19
  have i1 : IntKind.i64.wrap (M : Int) = M := by rw [IntKind.wrap_i64]; omega
  have hlt := h.lt
  have hrl := hx.lt
  have hxs : x ∉ [r] := by simpa using hxr
  obtain ⟨ps, hps⟩ : ∃ ps, cutsR X.sendE X.una X.data M X.sent.toNat X.sendE = ps := ⟨_, rfl⟩
  have hpl : ps.length ≤ 16384 := by rw [← hps]; exact Nat.le_trans cutsR_len (by unfold RX.sendE; have := okx.len; omega)
  have HPL := Lib.hid hpl
  rw [hps] at CS ⊢
  clear h hst hi ho hx okx ok2 hm hps m0 m1 hpl
  go_enter Tryz.func50, Tryz.ntmps50
  go_upto_region 1 with fail
  go_region_held3 (fun w' => w'.cell? ⟨x, 11, none⟩ = some (.int .u16 M) ∧ w'.cell? ⟨x, 19, none⟩ = some (.pointer (some ⟨r, 0, none⟩))) ((refine (fun kx => ⟨cell_keeps kx c11 hxs, cell_keeps kx c19 hxs⟩ : Keeps [r] w _ → _) ?_; (repeat (first | with_reducible assumption | with_reducible exact Keeps.refl _ _ | with_reducible apply Keeps.alloc' | with_reducible apply Keeps.drew' | with_reducible apply Keeps.drewN' | (with_reducible apply Keeps.setCell'; rotate_left; · simp))))) (first | (go_at_call 83; (with_reducible refine (CS.out _ (Keeps.drew [] _)).mono ?_); rintro e w1 ⟨v1, l1, rfl, own1, pcs1, rx1, k1⟩; have kk1 : Keeps [r] w w1 := Keeps.trans (Keeps.drew [r] _) k1; clear k1) | fail)
  all_goals
    obtain ⟨A1, c1, rfl, hat, hlc, hcm, hA1⟩ := EK.Own.at_ own1
    have hll : l1.length ≤ 16384 := by rw [pcs1.1]; exact HPL.out
    have HAT := Lib.hid hat
    have HA1 := Lib.hid hA1
    have HPC := Lib.hid pcs1
    have HRX := Lib.hid rx1
    have HK := Lib.hid kk1
    have H1 := Lib.hid (H.out.keep kk1 hxs)
    have HLL := Lib.hid hll
    have hs1 := kk1.size
    clear hat hA1 pcs1 rx1 kk1 own1 hll c11 c19 hcm
    go_wp2_with fail
    go_loopg [5, 24] l1.length (fun g lv iv wx => ∃ i : Nat, iv = .int .i64 i ∧ i ≤ l1.length ∧ g = l1.length - i ∧ (segK s).Own wx w1.heap.size 39 lv (l1.take i) ∧ Keeps [] w1 wx)
    case atStart => exact ⟨0, rfl, Nat.zero_le _, rfl, EK.Own.nil _ _ _ _, Keeps.refl _ _⟩
    case round =>
      obtain ⟨i, rfl, hil, rfl, own, hk⟩ := hrel
      have HOWN := Lib.hid own
      have HKR := Lib.hid hk
      clear own
      by_cases hlt2 : i < l1.length
      · have hlt3 : (i : Int) < (l1.length : Int) := by omega
        obtain ⟨pc, hpc⟩ : ∃ pc, l1[i]? = some pc := ⟨_, List.getElem?_eq_getElem hlt2⟩
        obtain ⟨gb, o, rfl, hcells⟩ : ∃ gb o, A1 = some ⟨gb, o, none⟩ ∧ ∀ j u, (pcK.cf pc)[j]? = some u → w1.cell? ⟨gb, o + i * 2 + j, none⟩ = some u := by
          rcases HAT.out with h0 | ⟨gb, o, h1, h2⟩
          · rw [h0] at hlt2; simp at hlt2
          · exact ⟨gb, o, h1, fun j u hu => h2 i pc hpc j u hu⟩
        have f1 := cell_keeps hk (hcells 0 _ rfl) (by simp)
        have f2 := cell_keeps hk (hcells 1 _ rfl) (by simp)
        simp only [Nat.add_zero] at f1
        obtain ⟨w2, hw2⟩ : ∃ w2, wr.alloc (.cells #[.int .u32 pc.sq, .slice pc.A pc.n pc.c] 82) = w2 := ⟨_, rfl⟩
        obtain ⟨ib, hib⟩ : ∃ ib, wr.heap.size = ib := ⟨_, rfl⟩
        have k2 : Keeps [] wr w2 := by rw [← hw2]; exact Keeps.alloc [] wr _
        have hb2 : w2.heap[ib]? = some (.cells #[.int .u32 pc.sq, .slice pc.A pc.n pc.c] 82 (0, 0)) := by rw [← hw2, ← hib]; exact (MapKept.heap_alloc wr _).1
        have d0 := cell_of_block hb2 0
        have d1 := cell_of_block hb2 1
        simp at d0 d1
        have K2 := Lib.hid (hk.trans k2)
        have O2 := Lib.hid (HOWN.out.keep0 k2)
        clear k2 hb2 hcells hk HOWN
        go_upto_region 6 with fail
        go_wp2_with fail
        refine (elaid_any (H1.out.keep0 K2.out) HST.out.1 HST.out.2.1 HST.out.2.2 (HRX.out.keep0 K2.out) OK2.out pc.sq pc.A pc.n pc.c).mono ?_
        rintro e w3 ⟨rfl, k3⟩
        unfold lvV
        have k13 := K2.out.trans k3
        have K3 := Lib.hid k13
        have O3 := Lib.hid (O2.out.keep0 k3)
        have hi16 : i < 16384 := by have := HLL.out; omega
        have hz1 : (l1.take i).length + [pc].length ≤ 100000 := by have := HLL.out; simp; omega
        have hob : ∀ j, u5.ownBlock = some j → w1.heap.size ≤ j := fun j hj => (World.ownsRow.lt (show w3.ownsRow _ _ _ _ _ _ from O3.out) j hj).1
        have HOB := Lib.hid hob
        clear hob k3 k13 d0 d1 hw2
        go_wp2_with (at_builtin; refine wpList_append_E (segK s) rfl (.tmp 28) (.tmp 32) 23 39 w1.heap.size rfl Tryz.underlying23 Tryz.infoSeg (by rfl) (by decide) u5 (l1.take i) rfl (O3.out.keep0 (Keeps.alloc [] w3 _)) (some ⟨_, 0, none⟩) 1 [pc] rfl (seg_one (MapKept.heap_alloc w3 _).1) (fun h => by cases h) hz1 (K3.out.alloc' _).size ?_; intro v4 w4 o4 g4 a4)
        have KK4 : Keeps [] w1 w4 := Keeps.ownS (K3.out.alloc' _) g4 (fun j hj => HOB.out j hj)
        go_roundg (l1.length - (i + 1))
        case measure => omega
        case rel => exact ⟨i + 1, by simp, by omega, rfl, by rw [List.take_add_one, hpc]; exact o4, KK4⟩
      · have hie : i = l1.length := by omega
        have hlt3 : ¬ (i : Int) < (l1.length : Int) := by omega
        go_wp2_with fail
        have hti : l1.take i = l1 := by rw [hie]; exact List.take_length
        have own := HOWN.out
        rw [hti] at own
        have own2 : (segK s).Own wr w.heap.size 39 u5 l1 := own_lower' own hs1
        refine bodyPost_ret (v := u5) (by simp [results, Tryz.results50, go_sem]) rfl ⟨u5, rfl, l1, own2, HPC.out.newrow HKR.out (fun j hj => (World.ownsRow.lt (show wr.ownsRow _ _ _ _ _ _ from own) j hj).1), HRX.out.keep0 HKR.out, H1.out.keep0 HKR.out, HK.out.trans (HKR.out.mono (by simp))⟩
end Go.Proofs.YtakgohocimlagaaGreat

namespace Go.Proofs.YtakgohocimlagaaGreat
open Go.RowKit Go.Lib
set_option linter.unusedVariables false
set_option linter.unusedSimpArgs false

theorem eacks_no (w : World) (x : Value) : Calls Tryz.prog 63 #[x, .bool false] w fun e w' => e = .returned (.slice none 0 0) ∧ w = w' := by
  go_enter Tryz.func63, Tryz.ntmps63
  go_wp2
  go_ret
  exact ⟨rfl, rfl⟩
theorem acked_Ok {X : RX} (ok : X.Ok) {ak wn : Int} (ha : U32 ak) (hw : 0 ≤ wn ∧ wn ≤ 1073741824) {n : Nat} (hs : (n : Int) ≤ X.sent) (A : Option Addr) (c : Nat) (now : Int) : (X.acked ak wn n A c now).Ok := by
  have h1 := ok.len
  have h2 := ok.sent
  unfold RX.acked
  split
  · exact ⟨ok.una, ok.len, ok.sent, hw, ok.rto, ok.tries, ok.cnt⟩
  · unfold RX.anew
    exact ⟨ha, by simp only [List.length_drop]; omega, by simp only [List.length_drop]; omega, hw, ok.rto, ok.tries, by simp only; omega⟩
theorem PcsV.lower {b0 base : Nat} {w : World} {own : Option Nat} {l : List PC} {ps : List (Int × List UInt8)} (h : PcsV base w own l ps) (hb : b0 ≤ base) : PcsV b0 w own l ps :=
  ⟨h.1, fun i x p hx hp => by obtain ⟨h1, h2, h3, h4, h5⟩ := h.2 i x p hx hp; exact ⟨h1, h2, h3, h4, fun a ha => ⟨Nat.le_trans hb (h5 a ha).1, (h5 a ha).2⟩⟩⟩
/-- an end towards a server holds no byte in its own block -/
theorem EndAt.noU8 {w : World} {x : Nat} {s : ES} {o : Option Addr} (h : EndAt w x s) (hi : s.inp = .pointer none) (ht : ∃ A n c, s.tak = .slice A n c) (ho : s.out = .pointer o) (hw : ∃ A n c, s.wri = .slice A n c) : NoU8 w x := by
  obtain ⟨A1, n1, c1, ht⟩ := ht
  obtain ⟨A2, n2, c2, hw⟩ := hw
  intro i v hv
  rw [cell_of_block h i] at hv
  have hlt := (Array.getElem?_eq_some_iff.1 hv).1
  simp [ES.cells] at hlt
  unfold ES.cells at hv
  rw [hi, ht, ho, hw] at hv
  have : ∀ j, j < 24 → j = 0 ∨ j = 1 ∨ j = 2 ∨ j = 3 ∨ j = 4 ∨ j = 5 ∨ j = 6 ∨ j = 7 ∨ j = 8 ∨ j = 9 ∨ j = 10 ∨ j = 11 ∨ j = 12 ∨ j = 13 ∨ j = 14 ∨ j = 15 ∨ j = 16 ∨ j = 17 ∨ j = 18 ∨ j = 19 ∨ j = 20 ∨ j = 21 ∨ j = 22 ∨ j = 23 := by omega
  rcases this i hlt with h | h | h | h | h | h | h | h | h | h | h | h | h | h | h | h | h | h | h | h | h | h | h | h <;> (subst h; simp at hv)
set_option maxRecDepth 100000 in
set_option maxHeartbeats 4000000 in
theorem eserver_ok {w : World} {x r : Nat} {s : ES} {X : RX} (h : EndAt w x s) (hst : s.st = 2) (hi : s.inp = .pointer none) (ho : s.out = .pointer (some ⟨r, 0, none⟩)) (hx : RxAt w r X) (okx : X.Ok) (M : Nat) (hm : s.mss = M) (m0 : 1 ≤ M) (m1 : M ≤ 1460) (hxr : x ≠ r) (hscl : s.scl = -1) (hirs : U32 s.irs) (htk : ∃ A n c, s.tak = .slice A n c) (hwr : ∃ A n c, s.wri = .slice A n c)
    (sp dp ak wn : Int) (hwn : 1 ≤ wn ∧ wn ≤ 65535) (hak : U32 ak) (n : Nat) (hn : aheadI X.una ak = n) (hs : (n : Int) ≤ X.sent) (hl1 : lessI (addI X.una X.sent) ak = false) (hl2 : lessI ak X.una = false) (now : Int) (n0 : 0 ≤ now) (n1 : now ≤ 4398046511104) :
    Calls Tryz.prog 42 #[.pointer (some ⟨x, 0, none⟩), .agg #[.int .u16 sp, .int .u16 dp, .int .u32 ((s.irs + 1) % 4294967296), .int .u32 ak, .int .u8 16, .int .u16 wn, .int .u16 0, .slice none 0 0, .slice none 0 0], .int .u64 now] w fun e w' => ∃ v l A' c', e = .returned v ∧ (segK s).Own w' w.heap.size 39 v l ∧ PcsV w.heap.size w' v.ownBlock l (cutsR (X.acked ak wn n A' c' now).sendE (X.acked ak wn n A' c' now).una (X.acked ak wn n A' c' now).data M (X.acked ak wn n A' c' now).sent.toNat (X.acked ak wn n A' c' now).sendE) ∧ RxAt w' r { X.acked ak wn n A' c' now with sent := max (X.acked ak wn n A' c' now).sent (X.acked ak wn n A' c' now).sendE } ∧ EndAt w' x { s with win := wn } ∧ (∀ P, X.inP P → (X.acked ak wn n A' c' now).inP P) ∧ Keeps [x, r] w w' := by
  obtain ⟨iq, hiq⟩ : ∃ iq, (s.irs + 1) % 4294967296 = iq := ⟨_, rfl⟩
  have hiqU : U32 iq := by rw [← hiq]; constructor <;> omega
  have hwi : IntKind.u32.wrap (s.irs + 1) = iq := by rw [← hiq]; exact IntKind.wrap_u32 _
  rw [hiq]
  have CW := Lib.hid (fun W => within_any W iq iq 65536 hiqU hiqU)
  have hwt : withinI iq iq 65536 = true := by unfold withinI; simp
  rw [hwt] at CW
  have CN := Lib.hid (fun W (k : Keeps [] w W) => xnxt_any (hx.keep0 k) okx)
  have hnu : U32 (addI X.una X.sent) := by unfold addI; constructor <;> omega
  have CL1 := Lib.hid (fun W => less_any W (addI X.una X.sent) ak hnu hak)
  rw [hl1] at CL1
  have CU := Lib.hid (fun W (k : Keeps [] w W) => xuna_any (hx.keep0 k) okx.rto.1)
  have CL2 := Lib.hid (fun W => less_any W ak X.una hak okx.una)
  rw [hl2] at CL2
  have CWN := Lib.hid (fun W (k : Keeps [] w W) => ewindow_any (h.keep0 k) (by omega) ⟨sp, dp, iq, ak, 16, wn, 0, [], []⟩ (.slice none 0 0) (.slice none 0 0) (by simp only; omega))
  have hww : winI wn s.scl = wn := by
    unfold winI
    rw [hscl]
    have : (max (-1 : Int) 0).toNat = 0 := by decide
    rw [this]
    simp
    omega
  simp only [hww] at CWN
  unfold segV at CWN
  have H := Lib.hid h
  have HX := Lib.hid hx
  have OX := Lib.hid okx
  have HST := Lib.hid (And.intro hst (And.intro hi (And.intro ho (And.intro hm hscl))))
  have HN := Lib.hid (And.intro hn hs)
  have HFT := Lib.hid (And.intro htk hwr)
  have HB := Lib.hid (And.intro hwn (And.intro hak (And.intro m0 (And.intro m1 (And.intro n0 n1)))))
  have c10 := h.c10
  have c19 := h.c19
  rw [ho] at c19
  have hlt := h.lt
  have hrl := hx.lt
  clear h hst hi ho hx okx hm m0 m1 hscl hn hs hl1 hl2 n0 n1 hwn hak hwt hnu hiq hiqU hww htk hwr
  go_enter Tryz.func42, Tryz.ntmps42
  go_upto_region 1 with fail
  refine wp_gn (fun W0 hW0 => ?_)
  have k0 : Keeps [] w W0 := by rw [hW0]; exact Keeps.alloc _ _ _
  have hb0 : W0.heap[w.heap.size]? = some (.cells #[.int .u16 sp, .int .u16 dp, .int .u32 iq, .int .u32 ak, .int .u8 16, .int .u16 wn, .int .u16 0, .slice none 0 0, .slice none 0 0] 39 (0, 0)) := by rw [hW0]; exact (MapKept.heap_alloc w _).1
  have HB0 := Lib.hid hb0
  have K0 := Lib.hid k0
  have b2 := cell_of_block hb0 2
  have b3 := cell_of_block hb0 3
  have b4 := cell_of_block hb0 4
  have b8 := cell_of_block hb0 8
  simp at b2 b3 b4 b8
  have d10 := cell_keeps k0 c10 (by simp)
  have d19 := cell_keeps k0 c19 (by simp)
  clear hW0 k0 hb0 c10 c19
  go_upto_region 9 with fail
  refine wp_gn (fun W1 hW1 => ?_)
  have kq : Keeps [] W0 W1 := by rw [hW1]; (repeat (first | with_reducible assumption | with_reducible exact Keeps.refl _ _ | with_reducible apply Keeps.alloc' | with_reducible apply Keeps.drew' | with_reducible apply Keeps.drewN' | (with_reducible apply Keeps.setCell'; rotate_left; · simp)))
  have K01 := Lib.hid (K0.out.trans kq)
  have b2 := cell_keeps kq b2 (by simp)
  have b3 := cell_keeps kq b3 (by simp)
  have d10 := cell_keeps kq d10 (by simp)
  have d19 := cell_keeps kq d19 (by simp)
  have HB1 := Lib.hid ((kq.block _ (lt_of_block HB0.out) (by simp)).trans HB0.out)
  clear hW1 kq
  go_region_held3 (fun w' => w'.cell? ⟨w.heap.size, 2, none⟩ = some (.int .u32 iq) ∧ w'.cell? ⟨w.heap.size, 3, none⟩ = some (.int .u32 ak) ∧ w'.cell? ⟨x, 10, none⟩ = some (.int .u32 s.irs) ∧ w'.cell? ⟨x, 19, none⟩ = some (.pointer (some ⟨r, 0, none⟩))) ((refine (fun kx => ⟨cell_keeps kx b2 (by simp), cell_keeps kx b3 (by simp), cell_keeps kx d10 (by simp), cell_keeps kx d19 (by simp)⟩ : Keeps [] W1 _ → _) ?_; (repeat (first | with_reducible assumption | with_reducible exact Keeps.refl _ _ | with_reducible apply Keeps.alloc' | with_reducible apply Keeps.drew' | with_reducible apply Keeps.drewN' | (with_reducible apply Keeps.setCell'; rotate_left; · simp))))) (first | (go_at_call 64; (with_reducible refine (CW.out _).mono ?_); rintro e w2 ⟨rfl, rfl⟩) | (go_at_call 37; (with_reducible refine (CN.out _ (K01.out.trans (by (repeat (first | with_reducible assumption | with_reducible exact Keeps.refl _ _ | with_reducible apply Keeps.alloc' | with_reducible apply Keeps.drew' | with_reducible apply Keeps.drewN' | (with_reducible apply Keeps.setCell'; rotate_left; · simp)))))).mono ?_); rintro e w3 ⟨rfl, k3⟩; have kk3 : Keeps [] W1 w3 := Keeps.trans (by (repeat (first | with_reducible assumption | with_reducible exact Keeps.refl _ _ | with_reducible apply Keeps.alloc' | with_reducible apply Keeps.drew' | with_reducible apply Keeps.drewN' | (with_reducible apply Keeps.setCell'; rotate_left; · simp)))) k3; clear k3) | (go_at_call 74; (with_reducible refine (CL1.out _).mono ?_); rintro e w4 ⟨rfl, rfl⟩) | fail)
  all_goals
    have K3 := Lib.hid (K01.out.trans kk3)
    have hb3 := (kk3.block _ (lt_of_block HB1.out) (by simp)).trans HB1.out
    have HB3 := Lib.hid hb3
    have b3 := cell_of_block hb3 3
    simp at b3
    have d19 := cell_keeps kk3 d19 (by simp)
    clear hb3 kk3
    go_upto_region 11 with fail
    go_region_held3 (fun w' => w'.cell? ⟨w.heap.size, 3, none⟩ = some (.int .u32 ak) ∧ w'.cell? ⟨x, 19, none⟩ = some (.pointer (some ⟨r, 0, none⟩))) ((refine (fun kx => ⟨cell_keeps kx b3 (by simp), cell_keeps kx d19 (by simp)⟩ : Keeps [] w3 _ → _) ?_; (repeat (first | with_reducible assumption | with_reducible exact Keeps.refl _ _ | with_reducible apply Keeps.alloc' | with_reducible apply Keeps.drew' | with_reducible apply Keeps.drewN' | (with_reducible apply Keeps.setCell'; rotate_left; · simp))))) (first | (go_at_call 51; (with_reducible refine (CU.out _ (K3.out.trans (by (repeat (first | with_reducible assumption | with_reducible exact Keeps.refl _ _ | with_reducible apply Keeps.alloc' | with_reducible apply Keeps.drew' | with_reducible apply Keeps.drewN' | (with_reducible apply Keeps.setCell'; rotate_left; · simp)))))).mono ?_); rintro e w4 ⟨rfl, rfl⟩) | (go_at_call 74; (with_reducible refine (CL2.out _).mono ?_); rintro e w4 ⟨rfl, rfl⟩) | fail)
    go_upto_region 12 with fail
    refine wp_gn (fun W5 hW5 => ?_)
    have kq : Keeps [] w3 W5 := by rw [hW5]; (repeat (first | with_reducible assumption | with_reducible exact Keeps.refl _ _ | with_reducible apply Keeps.alloc' | with_reducible apply Keeps.drew' | with_reducible apply Keeps.drewN' | (with_reducible apply Keeps.setCell'; rotate_left; · simp)))
    have K5 := Lib.hid (K3.out.trans kq)
    have hb5 := (kq.block _ (lt_of_block HB3.out) (by simp)).trans HB3.out
    have HB5 := Lib.hid hb5
    clear hW5 kq b3 d19
    have hb5c0 := cell_of_block hb5 0
    have hb5c1 := cell_of_block hb5 1
    have hb5c2 := cell_of_block hb5 2
    have hb5c3 := cell_of_block hb5 3
    have hb5c4 := cell_of_block hb5 4
    have hb5c5 := cell_of_block hb5 5
    have hb5c6 := cell_of_block hb5 6
    have hb5c7 := cell_of_block hb5 7
    have hb5c8 := cell_of_block hb5 8
    simp at hb5c0 hb5c1 hb5c2 hb5c3 hb5c4 hb5c5 hb5c6 hb5c7 hb5c8
    have hb5f0 := free_of_block hb5 0
    have hb5f1 := free_of_block hb5 1
    have hb5f2 := free_of_block hb5 2
    have hb5f3 := free_of_block hb5 3
    have hb5f4 := free_of_block hb5 4
    have hb5f5 := free_of_block hb5 5
    have hb5f6 := free_of_block hb5 6
    have hb5f7 := free_of_block hb5 7
    have hb5f8 := free_of_block hb5 8
    clear hb5
    go_wp2_with fail
    refine (CWN.out _ K5.out).mono ?_
    rintro e w6 ⟨rfl, k6⟩
    have K6 := Lib.hid (K5.out.trans k6)
    have HB6 := Lib.hid ((k6.block _ (lt_of_block HB5.out) (by simp)).trans HB5.out)
    have H6 := Lib.hid (H.out.keep0 K6.out)
    have c14 := H6.out.c14
    have z14 := H6.out.fz 14
    clear k6 hb5c0 hb5c1 hb5c2 hb5c3 hb5c4 hb5c5 hb5c6 hb5c7 hb5c8 hb5f0 hb5f1 hb5f2 hb5f3 hb5f4 hb5f5 hb5f6 hb5f7 hb5f8
    go_upto_region 13 with fail
    refine wp_gn (fun W7 hW7 => ?_)
    have kS : Keeps [x] w6 W7 := by rw [hW7]; exact Keeps.setCell w6 ⟨x, 14, none⟩ _
    have h7 : EndAt W7 x { s with win := wn } := by rw [hW7]; exact H6.out.s14 wn
    have hx7 : RxAt W7 r X := (HX.out.keep0 K6.out).other kS (fun h => hxr h.symm) (H6.out.noU8 HST.out.2.1 HFT.out.1 HST.out.2.2.1 HFT.out.2)
    have K7 := Lib.hid ((K6.out.mono (T := [x]) (by simp)).trans kS)
    have hb7 := (kS.block _ (lt_of_block HB6.out) (by simp; omega)).trans HB6.out
    have HB7 := Lib.hid hb7
    have H7 := Lib.hid h7
    have HX7 := Lib.hid hx7
    have b3 := cell_of_block hb7 3
    simp at b3
    have d19 := h7.c19
    have d14 := h7.c14
    simp only at d19 d14
    rw [HST.out.2.2.1] at d19
    clear hW7 kS h7 hx7 hb7 c14 z14
    have hxs : x ∉ [r] := by simpa using hxr
    go_region_held3 (fun w' => w'.cell? ⟨w.heap.size, 3, none⟩ = some (.int .u32 ak) ∧ w'.cell? ⟨x, 19, none⟩ = some (.pointer (some ⟨r, 0, none⟩)) ∧ w'.cell? ⟨x, 14, none⟩ = some (.int .u32 wn)) ((refine (fun kx => ⟨cell_keeps kx b3 (by simp; omega), cell_keeps kx d19 hxs, cell_keeps kx d14 hxs⟩ : Keeps [r] W7 _ → _) ?_; (repeat (first | with_reducible assumption | with_reducible exact Keeps.refl _ _ | with_reducible apply Keeps.alloc' | with_reducible apply Keeps.drew' | with_reducible apply Keeps.drewN' | (with_reducible apply Keeps.setCell'; rotate_left; · simp))))) (first | (go_at_call 75; (with_reducible refine (xacked_ok (HX7.out.keep0 (by (repeat (first | with_reducible assumption | with_reducible exact Keeps.refl _ _ | with_reducible apply Keeps.alloc' | with_reducible apply Keeps.drew' | with_reducible apply Keeps.drewN' | (with_reducible apply Keeps.setCell'; rotate_left; · simp))))) OX.out ak HB.out.2.1 n HN.out.1 HN.out.2 wn (by have := HB.out.1; omega) (by have := HB.out.1; omega) now HB.out.2.2.2.2.1 HB.out.2.2.2.2.2).mono ?_); rintro e w8 ⟨rfl, ⟨A8, c8, hx8, sb8⟩, k8⟩; have SB8 := Lib.hid sb8; clear sb8; have kk8 : Keeps [r] W7 w8 := Keeps.trans (by (repeat (first | with_reducible assumption | with_reducible exact Keeps.refl _ _ | with_reducible apply Keeps.alloc' | with_reducible apply Keeps.drew' | with_reducible apply Keeps.drewN' | (with_reducible apply Keeps.setCell'; rotate_left; · simp)))) k8; clear k8) | fail)
    have H8 := Lib.hid (H7.out.keep kk8 hxs)
    have hb8 := (kk8.block _ (lt_of_block HB7.out) (by simp; omega)).trans HB7.out
    have okA := acked_Ok OX.out HB.out.2.1 (wn := wn) (by have := HB.out.1; omega) HN.out.2 A8 c8 now
    have K8 := Lib.hid ((K7.out.mono (T := [x, r]) (by simp)).trans (kk8.mono (by simp)))
    have CSE := Lib.hid (esend_ok H8.out HST.out.1 HST.out.2.1 HST.out.2.2.1 hx8 okA M HST.out.2.2.2.1 HB.out.2.2.1 HB.out.2.2.2.1 hxr)
    have b4 := cell_of_block hb8 4
    have b8 := cell_of_block hb8 8
    simp at b4 b8
    clear hb8 kk8 hx8 okA b3 d19 d14
    go_wp2_with fail
    refine (eacks_no _ _).mono ?_
    rintro e w9 ⟨rfl, rfl⟩
    go_wp2_with fail
    refine CSE.out.mono ?_
    rintro e w10 ⟨v10, l10, rfl, own10, pcs10, rx10, end10, k10⟩
    obtain ⟨A10, c10, rfl, at10, hlc, hcm, hA10⟩ := EK.Own.at_ own10
    have hAn : A10 = none → l10 = [] := fun h => by
      rcases at10 with h0 | ⟨b, o, h1, _⟩
      · exact h0
      · rw [h1] at h; cases h
    have hll : ([] : List PC).length + l10.length ≤ 100000 := by
      have h1 := pcs10.1
      have h2 : l10.length ≤ (X.acked ak wn n A8 c8 now).sendE := by rw [h1]; exact cutsR_len
      have h3 := (acked_Ok OX.out HB.out.2.1 (wn := wn) (by have := HB.out.1; omega) HN.out.2 A8 c8 now).len
      have h4 : (X.acked ak wn n A8 c8 now).sendE ≤ (X.acked ak wn n A8 c8 now).data.length := by unfold RX.sendE; omega
      simp
      omega
    have P10 := Lib.hid pcs10
    have R10 := Lib.hid rx10
    have E10 := Lib.hid end10
    have KK10 := Lib.hid k10
    have AT := Lib.hid at10
    clear pcs10 rx10 end10 k10 own10 at10 hA10 hlc hcm b4 b8
    go_wp2_with (at_builtin; refine wpList_append_E (segK { s with win := wn }) rfl (.tmp 101) (.tmp 103) 23 39 w10.heap.size rfl Tryz.underlying23 Tryz.infoSeg (by rfl) (by decide) (.slice none 0 0) [] rfl (EK.Own.nil _ _ _ _) A10 c10 l10 rfl AT.out hAn hll (Nat.le_refl _) ?_; intro v11 w11 o11 g11 a11)
    have k11 : Keeps [] w10 w11 := Keeps.ownS (Keeps.refl [] w10) g11 (fun j hj => by cases hj)
    have hsz10 : w.heap.size ≤ w10.heap.size := Nat.le_trans K8.out.size KK10.out.size
    rw [List.nil_append] at o11
    have own2 : (segK s).Own w11 w.heap.size 39 v11 l10 := own_lower' o11 hsz10
    refine bodyPost_ret (v := v11) (by simp [results, Tryz.results42, go_sem]) rfl ⟨v11, l10, A8, c8, rfl, own2, (P10.out.lower K8.out.size).newrow k11 (fun j hj => (World.ownsRow.lt (show w11.ownsRow _ _ _ _ _ _ from o11) j hj).1), R10.out.keep0 k11, E10.out.keep0 k11, SB8.out, (K8.out.trans (KK10.out.mono (by simp))).trans (k11.mono (by simp))⟩
end Go.Proofs.YtakgohocimlagaaGreat

namespace Go.Proofs.YtakgohocimlagaaGreat
open Go.RowKit Go.Lib
set_option linter.unusedVariables false
set_option linter.unusedSimpArgs false

set_option maxRecDepth 100000 in
set_option maxHeartbeats 4000000 in
theorem etake_open {w : World} {x r : Nat} {s : ES} {X : RX} (h : EndAt w x s) (hst : s.st = 2) (hi : s.inp = .pointer none) (ho : s.out = .pointer (some ⟨r, 0, none⟩)) (hx : RxAt w r X) (okx : X.Ok) (M : Nat) (hm : s.mss = M) (m0 : 1 ≤ M) (m1 : M ≤ 1460) (hxr : x ≠ r) (hscl : s.scl = -1) (hirs : U32 s.irs) (htk : ∃ A n c, s.tak = .slice A n c) (hwr : ∃ A n c, s.wri = .slice A n c)
    (sp dp ak wn : Int) (hwn : 1 ≤ wn ∧ wn ≤ 65535) (hak : U32 ak) (n : Nat) (hn : aheadI X.una ak = n) (hs : (n : Int) ≤ X.sent) (hl1 : lessI (addI X.una X.sent) ak = false) (hl2 : lessI ak X.una = false) (now : Int) (n0 : 0 ≤ now) (n1 : now ≤ 4398046511104) :
    Calls Tryz.prog 12 #[.pointer (some ⟨x, 0, none⟩), .agg #[.int .u16 sp, .int .u16 dp, .int .u32 ((s.irs + 1) % 4294967296), .int .u32 ak, .int .u8 16, .int .u16 wn, .int .u16 0, .slice none 0 0, .slice none 0 0], .int .u64 now] w fun e w' => ∃ v l A' c', e = .returned (.tuple #[v, .int .i64 0]) ∧ (segK s).Own w' w.heap.size 39 v l ∧ PcsV w.heap.size w' v.ownBlock l (cutsR (X.acked ak wn n A' c' now).sendE (X.acked ak wn n A' c' now).una (X.acked ak wn n A' c' now).data M (X.acked ak wn n A' c' now).sent.toNat (X.acked ak wn n A' c' now).sendE) ∧ RxAt w' r { X.acked ak wn n A' c' now with sent := max (X.acked ak wn n A' c' now).sent (X.acked ak wn n A' c' now).sendE } ∧ EndAt w' x { s with win := wn } ∧ (∀ P, X.inP P → (X.acked ak wn n A' c' now).inP P) ∧ Keeps [x, r] w w' := by
  have CS := Lib.hid (fun W (k : Keeps [] w W) => eserver_ok (h.keep0 k) hst hi ho (hx.keep0 k) okx M hm m0 m1 hxr hscl hirs htk hwr sp dp ak wn hwn hak n hn hs hl1 hl2 now n0 n1)
  have HE := Lib.hid (fun (W : World) (k : Keeps [] w W) => h.keep0 k)
  have hst1 : 1 ≤ s.st := by omega
  have hst3 : s.st ≠ 3 := by omega
  have hst4 : s.st ≠ 4 := by omega
  have e1 : (s.st == 1) = false := by simp; omega
  have hlt := h.lt
  obtain ⟨iq, hiq⟩ : ∃ iq, (s.irs + 1) % 4294967296 = iq := ⟨_, rfl⟩
  rw [hiq] at CS ⊢
  clear h hst ho hx okx hm m0 m1 hscl hirs htk hwr hwn hak hn hs hl1 hl2 n0 n1 hiq
  go_enter Tryz.func12, Tryz.ntmps12
  go_wp2_with fail
  refine (enone_no (HE.out _ (Keeps.alloc _ _ _)) hst1).mono ?_
  rintro e w1 ⟨rfl, rfl⟩
  go_wp2_with fail
  refine (eover_no (HE.out _ (Keeps.alloc _ _ _)) hst3 hst4).mono ?_
  rintro e w1 ⟨rfl, rfl⟩
  go_upto_region 5 with fail
  refine wp_gn (fun W1 hW1 => ?_)
  have k1 : Keeps [] w W1 := by rw [hW1]; exact Keeps.alloc _ _ _
  have hb : W1.heap[w.heap.size]? = some (.cells #[.int .u16 sp, .int .u16 dp, .int .u32 iq, .int .u32 ak, .int .u8 16, .int .u16 wn, .int .u16 0, .slice none 0 0, .slice none 0 0] 39 (0, 0)) := by rw [hW1]; exact (MapKept.heap_alloc w _).1
  have c16 := (HE.out W1 k1).c16
  have c15 := (HE.out W1 k1).c15
  rw [hi] at c16
  have hbc0 := cell_of_block hb 0
  have hbc1 := cell_of_block hb 1
  have hbc2 := cell_of_block hb 2
  have hbc3 := cell_of_block hb 3
  have hbc4 := cell_of_block hb 4
  have hbc5 := cell_of_block hb 5
  have hbc6 := cell_of_block hb 6
  have hbc7 := cell_of_block hb 7
  have hbc8 := cell_of_block hb 8
  simp at hbc0 hbc1 hbc2 hbc3 hbc4 hbc5 hbc6 hbc7 hbc8
  have hbf0 := free_of_block hb 0
  have hbf1 := free_of_block hb 1
  have hbf2 := free_of_block hb 2
  have hbf3 := free_of_block hb 3
  have hbf4 := free_of_block hb 4
  have hbf5 := free_of_block hb 5
  have hbf6 := free_of_block hb 6
  have hbf7 := free_of_block hb 7
  have hbf8 := free_of_block hb 8
  have K1 := Lib.hid k1
  clear hb k1 hW1
  go_wp2_with fail
  refine (CS.out W1 K1.out).mono ?_
  rintro e w2 ⟨v, l, A', c', rfl, own, pcs, rx, en, sb, kk⟩
  have R := Lib.hid (And.intro own (And.intro pcs (And.intro rx (And.intro en (And.intro sb kk)))))
  clear own pcs rx en sb kk
  go_wp2_with fail
  have own2 : (segK s).Own w2 w.heap.size 39 v l := own_lower' R.out.1 K1.out.size
  refine bodyPost_ret (v := .tuple #[v, .int .i64 0]) (by simp [results, Tryz.results12, go_sem]) rfl ⟨v, l, A', c', rfl, own2, R.out.2.1.lower K1.out.size, R.out.2.2.1, R.out.2.2.2.1, R.out.2.2.2.2.1, (K1.out.mono (by simp)).trans R.out.2.2.2.2.2⟩
end Go.Proofs.YtakgohocimlagaaGreat

namespace Go.Proofs.YtakgohocimlagaaGreat
open Go.RowKit Go.Lib
set_option linter.unusedVariables false
set_option linter.unusedSimpArgs false

theorem ticked_Ok {X : RX} (ok : X.Ok) (mss now : Int) (hc : X.cnt < X.tries) (hl : 0 < X.data.length) : (X.ticked mss now).Ok := by
  have h1 := ok.len
  have h2 := ok.sent
  have h3 := ok.cnt
  have h4 := ok.tries
  unfold RX.ticked RX.tickN
  exact ⟨ok.una, ok.len, by simp only; omega, ok.win, ok.rto, ok.tries, by simp only; omega⟩
set_option maxRecDepth 100000 in
set_option maxHeartbeats 4000000 in
theorem etick_open {w : World} {x r : Nat} {s : ES} {X : RX} (h : EndAt w x s) (hst : s.st = 2) (hi : s.inp = .pointer none) (ho : s.out = .pointer (some ⟨r, 0, none⟩)) (hx : RxAt w r X) (okx : X.Ok) (M : Nat) (hm : s.mss = M) (m0 : 1 ≤ M) (m1 : M ≤ 1460) (hxr : x ≠ r)
    (now : Int) (n0 : 0 ≤ now) (n1 : now ≤ 4398046511104) (ha : X.alarm ≤ now) (hc : X.cnt < X.tries) (hl : 0 < X.data.length) (w0 : 0 ≤ X.wait) (w1 : X.wait ≤ 2199023255552) :
    Calls Tryz.prog 19 #[.pointer (some ⟨x, 0, none⟩), .int .u64 now] w fun e w' => ∃ g A c, e = .returned (.tuple #[.slice (some ⟨g, 0, none⟩) 1 1, .int .i64 0]) ∧ w.heap.size ≤ g ∧ (segK s).At w' (some ⟨g, 0, none⟩) [⟨X.una, A, (X.tickN M).toNat, c⟩] ∧ BytesV w' (.slice A (X.tickN M).toNat c) (X.data.take (X.tickN M).toNat) ∧ (∀ a, A = some a → w.heap.size ≤ a.block) ∧ RxAt w' r (X.ticked M now) ∧ EndAt w' x s ∧ Keeps [r] w w' := by
  have CA := Lib.hid (ealarm_open h hst hi ho hx okx.rto.1 hl)
  have CT := Lib.hid (fun W (k : Keeps [] w W) => xtick_ok (hx.keep0 k) okx M now (by omega) (by omega) n0 n1 ha hc hl w0 w1)
  have ok2 := ticked_Ok okx M now hc hl
  have CLD := Lib.hid (fun W q A n c (k : Keeps [r] w W) (hx2 : RxAt W r (X.ticked M now)) => elaid_any (h.keep k (by simpa using hxr)) hst hi ho hx2 ok2 q A n c)
  have HE := Lib.hid (fun (W : World) (k : Keeps [r] w W) => h.keep k (show x ∉ [r] by simpa using hxr))
  have hst1 : 1 ≤ s.st := by omega
  have e1 : (s.st == 1) = false := by simp; omega
  have e2 : decide (now < X.alarm) = false := decide_eq_false (by omega)
  have i1 : IntKind.i64.wrap (M : Int) = M := by rw [IntKind.wrap_i64]; omega
  have c11 := h.c11
  have c19 := h.c19
  have c15 := h.c15
  rw [hm] at c11
  rw [ho] at c19
  have hlt := h.lt
  have hrl := hx.lt
  have hxs : x ∉ [r] := by simpa using hxr
  obtain ⟨t, ht⟩ : ∃ t, (X.tickN M).toNat = t := ⟨_, rfl⟩
  rw [ht] at CT ⊢
  clear hst hi ho hx okx hm m0 m1 n0 n1 ha hc hl w0 w1 ok2 ht
  unfold lvV at CLD
  go_enter Tryz.func19, Tryz.ntmps19
  go_wp2_with fail
  refine CA.out.mono ?_
  rintro e wa ⟨rfl, rfl⟩
  go_wp2_with fail
  refine (enone_no h hst1).mono ?_
  rintro e wb ⟨rfl, rfl⟩
  go_upto_region 14 with fail
  go_region_held3 (fun w' => w'.cell? ⟨x, 11, none⟩ = some (.int .u16 M) ∧ w'.cell? ⟨x, 19, none⟩ = some (.pointer (some ⟨r, 0, none⟩))) ((refine (fun kx => ⟨cell_keeps kx c11 hxs, cell_keeps kx c19 hxs⟩ : Keeps [r] w _ → _) ?_; (repeat (first | with_reducible assumption | with_reducible exact Keeps.refl _ _ | with_reducible apply Keeps.alloc' | with_reducible apply Keeps.drew' | with_reducible apply Keeps.drewN' | (with_reducible apply Keeps.setCell'; rotate_left; · simp))))) (first | (go_at_call 45; (with_reducible refine (CT.out _ (by (repeat (first | with_reducible assumption | with_reducible exact Keeps.refl _ _ | with_reducible apply Keeps.alloc' | with_reducible apply Keeps.drew' | with_reducible apply Keeps.drewN' | (with_reducible apply Keeps.setCell'; rotate_left; · simp))))).mono ?_); rintro e w3 ⟨A3, c3, rfl, b3, fr3, rx3, k3⟩; have FR3 := Lib.hid (show ∀ a, A3 = some a → w.heap.size ≤ a.block from fun a ha => Nat.le_trans (Keeps.size (S := []) (w := w) (by (repeat (first | with_reducible assumption | with_reducible exact Keeps.refl _ _ | with_reducible apply Keeps.alloc' | with_reducible apply Keeps.drew' | with_reducible apply Keeps.drewN' | (with_reducible apply Keeps.setCell'; rotate_left; · simp))))) (fr3 a ha)); clear fr3; have kk3 : Keeps [r] w w3 := Keeps.trans (by (repeat (first | with_reducible assumption | with_reducible exact Keeps.refl _ _ | with_reducible apply Keeps.alloc' | with_reducible apply Keeps.drew' | with_reducible apply Keeps.drewN' | (with_reducible apply Keeps.setCell'; rotate_left; · simp)))) k3; have hz3 : w3.heap[w.heap.size]? = some (.cells #[.int .u32 0, .slice none 0 0] 82 (0, 0)) := (k3.block w.heap.size (by simp) (by simp; omega)).trans (MapKept.heap_alloc w (.cells #[.int .u32 0, .slice none 0 0] 82)).1; have y03 := cell_of_block hz3 0; have y13 := cell_of_block hz3 1; have z03 := free_of_block hz3 0; have z13 := free_of_block hz3 1; simp at y03 y13; clear k3) | (go_at_call 45; (with_reducible refine (CT.out _ (by (repeat (first | with_reducible assumption | with_reducible exact Keeps.refl _ _ | with_reducible apply Keeps.alloc' | with_reducible apply Keeps.drew' | with_reducible apply Keeps.drewN' | (with_reducible apply Keeps.setCell'; rotate_left; · simp))))).mono ?_); rintro e w3 ⟨A3, c3, rfl, b3, fr3, rx3, k3⟩; have FR3 := Lib.hid (show ∀ a, A3 = some a → w.heap.size ≤ a.block from fun a ha => Nat.le_trans (Keeps.size (S := []) (w := w) (by (repeat (first | with_reducible assumption | with_reducible exact Keeps.refl _ _ | with_reducible apply Keeps.alloc' | with_reducible apply Keeps.drew' | with_reducible apply Keeps.drewN' | (with_reducible apply Keeps.setCell'; rotate_left; · simp))))) (fr3 a ha)); clear fr3; have kk3 : Keeps [r] w w3 := Keeps.trans (by (repeat (first | with_reducible assumption | with_reducible exact Keeps.refl _ _ | with_reducible apply Keeps.alloc' | with_reducible apply Keeps.drew' | with_reducible apply Keeps.drewN' | (with_reducible apply Keeps.setCell'; rotate_left; · simp)))) k3; clear k3) | fail)
  · go_upto_region 20 with fail
    refine wp_gn (fun W5 hW5 => ?_)
    have kq : Keeps [] w3 W5 := by rw [hW5]; exact Keeps.alloc _ _ _
    have hpb : W5.heap[w3.heap.size]? = some (.cells #[.int .u32 X.una, .slice A3 t c3] 82 (0, 0)) := by rw [hW5]; exact (MapKept.heap_alloc w3 _).1
    have K5 := Lib.hid (kk3.trans (kq.mono (by simp)))
    have R5 := Lib.hid (rx3.keep0 kq)
    have B5 := Lib.hid (b3.keep0 kq)
    have y0 := cell_of_block hpb 0
    have y1 := cell_of_block hpb 1
    simp at y0 y1
    clear hW5 kq hpb kk3 rx3 b3
    go_wp2_with fail
    refine (CLD.out W5 X.una A3 t c3 K5.out R5.out).mono ?_
    rintro e w6 ⟨rfl, k6⟩
    have K6 := Lib.hid k6
    clear k6 y0 y1
    go_wp2_with fail
    have kl : Keeps [] w6 (w6.alloc (.cells #[.int .u16 s.loc, .int .u16 s.rem, .int .u32 X.una, .int .u32 ((s.irs + 1) % 4294967296), .int .u8 24, .int .u16 0, .int .u16 0, .slice none 0 0, .slice A3 t c3] 39)) := Keeps.alloc [] w6 _
    have k56 := K6.out.trans kl
    refine bodyPost_ret (v := .tuple #[.slice (some ⟨w6.heap.size, 0, none⟩) 1 1, .int .i64 0]) (by simp [results, Tryz.results19, go_sem]) rfl ⟨w6.heap.size, A3, c3, rfl, Nat.le_trans K5.out.size K6.out.size, seg_one (x := ⟨X.una, A3, t, c3⟩) (MapKept.heap_alloc w6 _).1, B5.out.keep0 k56, FR3.out, R5.out.keep0 k56, HE.out _ (K5.out.trans (k56.mono (by simp))), K5.out.trans (k56.mono (by simp))⟩
  · go_upto_region 20 with fail
    refine wp_gn (fun W5 hW5 => ?_)
    have kS : Keeps [w.heap.size] w3 W5 := by rw [hW5]; exact (Keeps.setCell w3 ⟨w.heap.size, 0, none⟩ _).trans (Keeps.setCell _ ⟨w.heap.size, 1, none⟩ _)
    have hpb : W5.heap[w.heap.size]? = some (.cells #[.int .u32 X.una, .slice A3 t c3] 82 (0, 0)) := by rw [hW5]; exact heap_setCell_self (heap_setCell_self hz3 0 _) 1 _
    have hno : NoU8 w3 w.heap.size := by
      intro i v hv
      rw [cell_of_block hz3 i] at hv
      match i, hv with
      | 0, hv => simp at hv
      | 1, hv => simp at hv
      | i + 2, hv => simp at hv
    have K5 := Lib.hid (((kk3.mono (T := [r, w.heap.size]) (by simp)).trans (kS.mono (by simp))).fresh' (show w.heap.size ≠ r by omega))
    have R5 := Lib.hid (rx3.other kS (by omega) hno)
    have B5 := Lib.hid (b3.keep kS hno)
    have y0 := cell_of_block hpb 0
    have y1 := cell_of_block hpb 1
    simp at y0 y1
    clear hW5 kS hpb kk3 rx3 b3 hno hz3 y03 y13 z03 z13
    go_wp2_with fail
    refine (CLD.out W5 X.una A3 t c3 K5.out R5.out).mono ?_
    rintro e w6 ⟨rfl, k6⟩
    have K6 := Lib.hid k6
    clear k6 y0 y1
    go_wp2_with fail
    have kl : Keeps [] w6 (w6.alloc (.cells #[.int .u16 s.loc, .int .u16 s.rem, .int .u32 X.una, .int .u32 ((s.irs + 1) % 4294967296), .int .u8 24, .int .u16 0, .int .u16 0, .slice none 0 0, .slice A3 t c3] 39)) := Keeps.alloc [] w6 _
    have k56 := K6.out.trans kl
    refine bodyPost_ret (v := .tuple #[.slice (some ⟨w6.heap.size, 0, none⟩) 1 1, .int .i64 0]) (by simp [results, Tryz.results19, go_sem]) rfl ⟨w6.heap.size, A3, c3, rfl, Nat.le_trans K5.out.size K6.out.size, seg_one (x := ⟨X.una, A3, t, c3⟩) (MapKept.heap_alloc w6 _).1, B5.out.keep0 k56, FR3.out, R5.out.keep0 k56, HE.out _ (K5.out.trans (k56.mono (by simp))), K5.out.trans (k56.mono (by simp))⟩
end Go.Proofs.YtakgohocimlagaaGreat

namespace Go.Proofs.YtakgohocimlagaaGreat
open Go.RowKit Go.Lib
set_option linter.unusedVariables false
set_option linter.unusedSimpArgs false

set_option maxRecDepth 100000 in
set_option maxHeartbeats 4000000 in
theorem ewrite_opening {w : World} {x : Nat} {s : ES} (h : EndAt w x s) (hst : s.st = 1) (hi : s.inp = .pointer none) (ho : s.out = .pointer none) (htk : ∃ A n c, s.tak = .slice A n c) (A1 : Option Addr) (n1 c1 : Nat) (l1 : List UInt8) (hw : s.wri = .slice A1 n1 c1) (hb1 : BytesV w (.slice A1 n1 c1) l1) (A2 : Option Addr) (n2 c2 : Nat) (l2 : List UInt8) (hb2 : BytesV w (.slice A2 n2 c2) l2) (hlen : n1 + n2 ≤ 16384) (now : Int) :
    Calls Tryz.prog 22 #[.pointer (some ⟨x, 0, none⟩), .slice A2 n2 c2, .int .u64 now] w fun e w' => e = .returned (.tuple #[.slice none 0 0, .int .i64 0]) ∧ (∃ A c, EndAt w' x { s with wri := .slice A (n1 + n2) c } ∧ BytesV w' (.slice A (n1 + n2) c) (l1 ++ l2)) ∧ Keeps [x] w w' := by
  have H := Lib.hid h
  have HNO := Lib.hid (fun W (k : Keeps [] w W) => (h.keep0 k).noU8 hi htk ho ⟨A1, n1, c1, hw⟩)
  have CN := Lib.hid (enone_no h (by omega))
  have c16 := h.c16
  have c20 := h.c20
  rw [hi] at c16
  rw [hw] at c20
  have hlt := h.lt
  have e1 : (s.st == 2) = false := by simp; omega
  have hl : ¬ (16384 : Int) < ((n1 : Int) + n2) := by omega
  have HB := Lib.hid (And.intro hb1 hb2)
  have HL := Lib.hid hlen
  clear h hst hi ho htk hw hb1 hb2 hlen
  go_enter Tryz.func22, Tryz.ntmps22
  go_wp2_with fail
  refine CN.out.mono ?_
  rintro e w1 ⟨rfl, rfl⟩
  go_wp2_with fail
  have k1 : Keeps [] w (w.alloc (.cells #[.slice A1 n1 c1, .slice A2 n2 c2] 37)) := Keeps.alloc [] w _
  have hg := (MapKept.heap_alloc w (.cells #[.slice A1 n1 c1, .slice A2 n2 c2] 37)).1
  have f1 := HB.out.1.form.1
  have f2 := HB.out.2.form.1
  refine (concat_any _ w.heap.size A1 A2 n1 c1 n2 c2 l1 l2 (cell_of_block hg 0) (cell_of_block hg 1) (HB.out.1.keep0 k1) (HB.out.2.keep0 k1) (by have := HL.out; omega) (by have := HL.out; omega)).mono ?_
  rintro e w2 ⟨v, rfl, bv, k2⟩
  obtain ⟨A, c, rfl, hq⟩ := bv
  have hlen : (l1 ++ l2).length = n1 + n2 := by rw [List.length_append, ← f1, ← f2]
  have bv : BytesV w2 (.slice A (n1 + n2) c) (l1 ++ l2) := by rw [← hlen]; exact ⟨A, c, rfl, hq⟩
  rw [hlen]
  have H2 := Lib.hid (H.out.keep0 (k1.trans k2))
  have K2 := Lib.hid (k1.trans k2)
  have BV := Lib.hid bv
  have c15 := H2.out.c15
  have d20 := H2.out.c20
  have z20 := H2.out.fz 20
  have hno : NoU8 w2 x := HNO.out w2 (k1.trans k2)
  have R := Lib.hid (show EndAt (w2.setCell ⟨x, 20, none⟩ (.slice A (n1 + n2) c)) x { s with wri := .slice A (n1 + n2) c } ∧ BytesV (w2.setCell ⟨x, 20, none⟩ (.slice A (n1 + n2) c)) (.slice A (n1 + n2) c) (l1 ++ l2) ∧ Keeps [x] w (w2.setCell ⟨x, 20, none⟩ (.slice A (n1 + n2) c)) from
    ⟨H2.out.s20 _, bv.keep (Keeps.setCell w2 ⟨x, 20, none⟩ _) hno, (K2.out.mono (by simp)).trans (Keeps.setCell w2 ⟨x, 20, none⟩ _)⟩)
  clear k1 hg f1 f2 hq hlen bv k2 hno c16 c20
  go_wp2_with fail
  refine bodyPost_ret (v := .tuple #[.slice none 0 0, .int .i64 0]) (by simp [results, Tryz.results22, go_sem]) rfl ⟨rfl, ⟨A, c, R.out.1, R.out.2.1⟩, R.out.2.2⟩
theorem wrote_Ok {X : RX} (ok : X.Ok) (A : Option Addr) (l : List UInt8) (c : Nat) (now : Int) (h : X.data.length + l.length ≤ 16384) : (X.wrote A l c now).Ok := by
  have h2 := ok.sent
  unfold RX.wrote
  split
  · unfold RX.anew
    exact ⟨ok.una, by simp only [List.length_append]; omega, by simp only [List.length_append]; omega, ok.win, ok.rto, ok.tries, by simp only; omega⟩
  · exact ⟨ok.una, by simp only [List.length_append]; omega, by simp only [List.length_append]; omega, ok.win, ok.rto, ok.tries, ok.cnt⟩
set_option maxRecDepth 100000 in
set_option maxHeartbeats 4000000 in
theorem ewrite_open {w : World} {x r : Nat} {s : ES} {X : RX} (h : EndAt w x s) (hst : s.st = 2) (hi : s.inp = .pointer none) (ho : s.out = .pointer (some ⟨r, 0, none⟩)) (htk : ∃ A n c, s.tak = .slice A n c) (hx : RxAt w r X) (okx : X.Ok) (M : Nat) (hm : s.mss = M) (m0 : 1 ≤ M) (m1 : M ≤ 1460) (hxr : x ≠ r)
    (A1 : Option Addr) (n1 c1 : Nat) (l1 : List UInt8) (hw : s.wri = .slice A1 n1 c1) (hb1 : BytesV w (.slice A1 n1 c1) l1) (A2 : Option Addr) (n2 c2 : Nat) (l2 : List UInt8) (hb2 : BytesV w (.slice A2 n2 c2) l2) (hlen : n1 + n2 ≤ 16384) (hlen2 : X.data.length + n2 ≤ 16384) (now : Int) (n0 : 0 ≤ now) (n1' : now ≤ 4398046511104) :
    Calls Tryz.prog 22 #[.pointer (some ⟨x, 0, none⟩), .slice A2 n2 c2, .int .u64 now] w fun e w' => ∃ v l A c A' c', e = .returned (.tuple #[v, .int .i64 0]) ∧ (segK s).Own w' w.heap.size 39 v l ∧ PcsV w.heap.size w' v.ownBlock l (cutsR (X.wrote A' l2 c' now).sendE (X.wrote A' l2 c' now).una (X.wrote A' l2 c' now).data M (X.wrote A' l2 c' now).sent.toNat (X.wrote A' l2 c' now).sendE) ∧ RxAt w' r { X.wrote A' l2 c' now with sent := max (X.wrote A' l2 c' now).sent (X.wrote A' l2 c' now).sendE } ∧ EndAt w' x { s with wri := .slice A (n1 + n2) c } ∧ BytesV w' (.slice A (n1 + n2) c) (l1 ++ l2) ∧ (∀ a, A' = some a → w.heap.size ≤ a.block) ∧ Keeps [x, r] w w' := by
  have H := Lib.hid h
  have HX := Lib.hid hx
  have OX := Lib.hid okx
  have HST := Lib.hid (And.intro hst (And.intro hi (And.intro ho hm)))
  have HNO := Lib.hid (fun W (k : Keeps [] w W) => (h.keep0 k).noU8 hi htk ho ⟨A1, n1, c1, hw⟩)
  have CN := Lib.hid (enone_no h (by omega))
  have c16 := h.c16
  have c20 := h.c20
  rw [hi] at c16
  rw [hw] at c20
  have hlt := h.lt
  have e1 : (s.st == 2) = true := by simp; omega
  have hl : ¬ (16384 : Int) < ((n1 : Int) + n2) := by omega
  have HB := Lib.hid (And.intro hb1 hb2)
  have HL := Lib.hid (And.intro hlen (And.intro hlen2 (And.intro m0 (And.intro m1 (And.intro n0 n1')))))
  clear h hst hi htk hw hb1 hb2 hlen hx okx hm m0 m1 hlen2 n0 n1'
  go_enter Tryz.func22, Tryz.ntmps22
  go_wp2_with fail
  refine CN.out.mono ?_
  rintro e w1 ⟨rfl, rfl⟩
  go_wp2_with fail
  have k1 : Keeps [] w (w.alloc (.cells #[.slice A1 n1 c1, .slice A2 n2 c2] 37)) := Keeps.alloc [] w _
  have hg := (MapKept.heap_alloc w (.cells #[.slice A1 n1 c1, .slice A2 n2 c2] 37)).1
  have f1 := HB.out.1.form.1
  have f2 := HB.out.2.form.1
  refine (concat_any _ w.heap.size A1 A2 n1 c1 n2 c2 l1 l2 (cell_of_block hg 0) (cell_of_block hg 1) (HB.out.1.keep0 k1) (HB.out.2.keep0 k1) (by have := HL.out.1; omega) (by have := HL.out.1; omega)).mono ?_
  rintro e w2 ⟨v, rfl, bv, k2⟩
  obtain ⟨A, c, rfl, hq⟩ := bv
  have hlen : (l1 ++ l2).length = n1 + n2 := by rw [List.length_append, ← f1, ← f2]
  have bv : BytesV w2 (.slice A (n1 + n2) c) (l1 ++ l2) := by rw [← hlen]; exact ⟨A, c, rfl, hq⟩
  rw [hlen]
  have H2 := Lib.hid (H.out.keep0 (k1.trans k2))
  have K2 := Lib.hid (k1.trans k2)
  have BV := Lib.hid bv
  have F2 := Lib.hid f2
  have c15 := H2.out.c15
  have c19 := H2.out.c19
  rw [ho] at c19
  have d20 := H2.out.c20
  have z20 := H2.out.fz 20
  have HN2 := Lib.hid (HNO.out w2 (k1.trans k2))
  clear k1 hg f1 f2 hq hlen bv k2 c16 c20
  go_wp2_with fail
  refine calls_gnX (fun W3 hW3 => ?_)
  have kS : Keeps [x] w2 W3 := by rw [hW3]; exact Keeps.setCell w2 ⟨x, 20, none⟩ _
  have h3 : EndAt W3 x { s with wri := .slice A (n1 + n2) c } := by rw [hW3]; exact H2.out.s20 _
  have hx3 : RxAt W3 r X := (HX.out.keep0 K2.out).other kS (fun h => hxr h.symm) HN2.out
  have b3 := BV.out.keep kS HN2.out
  have K3 := Lib.hid ((K2.out.mono (T := [x]) (by simp)).trans kS)
  have H3 := Lib.hid h3
  have hx4 := xwrite_ok hx3 OX.out A2 n2 c2 l2 ((HB.out.2.keep0 K2.out).keep kS HN2.out) HL.out.2.1 now HL.out.2.2.2.2.1 HL.out.2.2.2.2.2
  have hno3 := hx3.no
  refine hx4.mono ?_
  rintro e w4 ⟨rfl, ⟨A', c', hx4, fa4⟩, k4⟩
  have FA := Lib.hid (show ∀ a, A' = some a → w.heap.size ≤ a.block from fun a ha => Nat.le_trans K3.out.size (fa4 a ha))
  clear fa4
  have hxs : x ∉ [r] := by simpa using hxr
  have B4 := Lib.hid (b3.keep k4 hno3)
  have ok4 := wrote_Ok OX.out A' l2 c' now (by have := HL.out.2.1; have := F2.out; omega)
  have hno4 := hx4.no
  have HN4 := Lib.hid hno4
  have CSE := Lib.hid (esend_ok (H3.out.keep k4 hxs) HST.out.1 HST.out.2.1 HST.out.2.2.1 hx4 ok4 M HST.out.2.2.2 HL.out.2.2.1 HL.out.2.2.2.1 hxr)
  have K4 := Lib.hid ((K3.out.mono (T := [x, r]) (by simp)).trans (k4.mono (by simp)))
  clear hW3 kS h3 hx3 b3 hx4 hno3 k4 ok4 hno4 c15 c19 d20 z20
  go_wp2_with fail
  refine CSE.out.mono ?_
  rintro e w5 ⟨v, l, rfl, own, pcs, rx, en, k5⟩
  have R := Lib.hid (And.intro own (And.intro pcs (And.intro rx (And.intro en k5))))
  clear own pcs rx en k5
  go_wp2_with fail
  have own2 : (segK s).Own w5 w.heap.size 39 v l := own_lower' R.out.1 K4.out.size
  refine bodyPost_ret (v := .tuple #[v, .int .i64 0]) (by simp [results, Tryz.results22, go_sem]) rfl ⟨v, l, A, c, A', c', rfl, own2, R.out.2.1.lower K4.out.size, R.out.2.2.1, R.out.2.2.2.1, B4.out.keep R.out.2.2.2.2 HN4.out, FA.out, K4.out.trans (R.out.2.2.2.2.mono (by simp))⟩
end Go.Proofs.YtakgohocimlagaaGreat

namespace Go.Proofs.YtakgohocimlagaaGreat
open Go.RowKit Go.Lib
set_option linter.unusedVariables false
set_option linter.unusedSimpArgs false

set_option maxRecDepth 100000 in
set_option maxHeartbeats 4000000 in
theorem etick_full {w : World} {x r : Nat} {s : ES} {X : RX} (h : EndAt w x s) (hst : s.st = 2) (hi : s.inp = .pointer none) (ho : s.out = .pointer (some ⟨r, 0, none⟩)) (hx : RxAt w r X) (okx : X.Ok) (M : Nat) (hm : s.mss = M) (m0 : 1 ≤ M) (m1 : M ≤ 1460) (hxr : x ≠ r)
    (now : Int) (n0 : 0 ≤ now) (n1 : now ≤ 4398046511104) (ha : X.alarm ≤ now) (hc : X.cnt = X.tries) (hl : 0 < X.data.length) :
    Calls Tryz.prog 19 #[.pointer (some ⟨x, 0, none⟩), .int .u64 now] w fun e w' => e = .returned (.tuple #[.slice none 0 0, .int .i64 0]) ∧ EndAt w' x { s with st := 4 } ∧ Keeps [x] w w' := by
  have CA := Lib.hid (ealarm_open h hst hi ho hx okx.rto.1 hl)
  have CT := Lib.hid (fun W (k : Keeps [] w W) => xtick_full (hx.keep0 k) okx M now (by omega) (by omega) ha hc hl)
  have HE := Lib.hid (fun (W : World) (k : Keeps [] w W) => h.keep0 k)
  have hst1 : 1 ≤ s.st := by omega
  have e1 : (s.st == 1) = false := by simp; omega
  have e2 : decide (now < X.alarm) = false := decide_eq_false (by omega)
  have i1 : IntKind.i64.wrap (M : Int) = M := by rw [IntKind.wrap_i64]; omega
  have c11 := h.c11
  have c19 := h.c19
  have c15 := h.c15
  rw [hm] at c11
  rw [ho] at c19
  have hlt := h.lt
  have hrl := hx.lt
  have hxs : x ∉ [r] := by simpa using hxr
  clear hst hi ho hx okx hm m0 m1 n0 n1 ha hc hl
  go_enter Tryz.func19, Tryz.ntmps19
  go_wp2_with fail
  refine CA.out.mono ?_
  rintro e wa ⟨rfl, rfl⟩
  go_wp2_with fail
  refine (enone_no h hst1).mono ?_
  rintro e wb ⟨rfl, rfl⟩
  go_upto_region 14 with fail
  go_region_held3 (fun w' => w'.cell? ⟨x, 11, none⟩ = some (.int .u16 M) ∧ w'.cell? ⟨x, 19, none⟩ = some (.pointer (some ⟨r, 0, none⟩))) ((refine (fun kx => ⟨cell_keeps kx c11 (by simp), cell_keeps kx c19 (by simp)⟩ : Keeps [] w _ → _) ?_; (repeat (first | with_reducible assumption | with_reducible exact Keeps.refl _ _ | with_reducible apply Keeps.alloc' | with_reducible apply Keeps.drew' | with_reducible apply Keeps.drewN' | (with_reducible apply Keeps.setCell'; rotate_left; · simp))))) (first | (go_at_call 45; (with_reducible refine (CT.out _ (by (repeat (first | with_reducible assumption | with_reducible exact Keeps.refl _ _ | with_reducible apply Keeps.alloc' | with_reducible apply Keeps.drew' | with_reducible apply Keeps.drewN' | (with_reducible apply Keeps.setCell'; rotate_left; · simp))))).mono ?_); rintro e w3 ⟨rfl, k3⟩; have kk3 : Keeps [] w w3 := Keeps.trans (by (repeat (first | with_reducible assumption | with_reducible exact Keeps.refl _ _ | with_reducible apply Keeps.alloc' | with_reducible apply Keeps.drew' | with_reducible apply Keeps.drewN' | (with_reducible apply Keeps.setCell'; rotate_left; · simp)))) k3; have hz3 : w3.heap[w.heap.size]? = some (.cells #[.int .u32 0, .slice none 0 0] 82 (0, 0)) := (k3.block w.heap.size (by simp) (by simp)).trans (MapKept.heap_alloc w (.cells #[.int .u32 0, .slice none 0 0] 82)).1; have y03 := cell_of_block hz3 0; have y13 := cell_of_block hz3 1; have z03 := free_of_block hz3 0; have z13 := free_of_block hz3 1; simp at y03 y13; clear k3) | (go_at_call 45; (with_reducible refine (CT.out _ (by (repeat (first | with_reducible assumption | with_reducible exact Keeps.refl _ _ | with_reducible apply Keeps.alloc' | with_reducible apply Keeps.drew' | with_reducible apply Keeps.drewN' | (with_reducible apply Keeps.setCell'; rotate_left; · simp))))).mono ?_); rintro e w3 ⟨rfl, k3⟩; have kk3 : Keeps [] w w3 := Keeps.trans (by (repeat (first | with_reducible assumption | with_reducible exact Keeps.refl _ _ | with_reducible apply Keeps.alloc' | with_reducible apply Keeps.drew' | with_reducible apply Keeps.drewN' | (with_reducible apply Keeps.setCell'; rotate_left; · simp)))) k3; clear k3) | fail)
  all_goals
    go_upto_region 16 with fail
    refine wp_gn (fun W5 hW5 => ?_)
    have k5 : Keeps [] w W5 := by
      rw [hW5]
      first
        | exact kk3.alloc' _
        | exact (kk3.setCell' (Or.inl (Nat.le_refl _)) _).setCell' (Or.inl (Nat.le_refl _)) _
    have H5 := Lib.hid (HE.out W5 k5)
    have c15 := H5.out.c15
    have z15 := H5.out.fz 15
    have R := Lib.hid (show EndAt (W5.setCell ⟨x, 15, none⟩ (.int .i64 4)) x { s with st := 4 } ∧ Keeps [x] w (W5.setCell ⟨x, 15, none⟩ (.int .i64 4)) from ⟨H5.out.s15 4, (k5.mono (by simp)).trans (Keeps.setCell W5 ⟨x, 15, none⟩ _)⟩)
    clear hW5 k5
    go_wp2_with fail
    refine bodyPost_ret (v := .tuple #[.slice none 0 0, .int .i64 0]) (by simp [results, Tryz.results19, go_sem]) rfl ⟨rfl, R.out.1, R.out.2⟩
end Go.Proofs.YtakgohocimlagaaGreat

namespace Go.Proofs.YtakgohocimlagaaGreat
open Go.RowKit Go.Lib
set_option linter.unusedVariables false
set_option linter.unusedSimpArgs false

set_option maxRecDepth 100000 in
set_option maxHeartbeats 2000000 in
theorem edone_opening {w : World} {x : Nat} {s : ES} (h : EndAt w x s) (h1 : 1 ≤ s.st) (hst : s.st ≠ 2) :
    Calls Tryz.prog 23 #[.pointer (some ⟨x, 0, none⟩)] w fun e w' => e = .returned (.bool false) ∧ Keeps [] w w' := by
  have CN := Lib.hid (fun W (k : Keeps [] w W) => enone_no (h.keep0 k) (by omega))
  have c15 := h.c15
  have e2 : (s.st == 2) = false := by simp; omega
  clear h hst h1
  go_enter Tryz.func23, Tryz.ntmps23
  go_upto_region 1 with fail
  refine wp_region_held_drew (S := fun W => W.cell? ⟨x, 15, none⟩ = some (.int .i64 s.st)) (by kernel_rfl) c15 (fun hHeld => ?_)
  refine wpAnyH_take (i := 0) (oi := _) (v := ?v1) rfl (by kernel_rfl) (by kernel_rfl) (by kernel_rfl) (fun _ _ _ h => h) (Or.inl ⟨by rfl, ?hy1⟩) (by assumption) ?rest1
  case hy1 => (intro w hSw; (try dsimp only at hSw); go_simp; try (with_reducible rfl))
  try simp only [List.getElem_toArray, List.getElem_cons_zero, List.getElem_cons_succ, Act.put, List.setIfInBounds_toArray, List.set_cons_zero, List.set_cons_succ]
  refine wpAnyH_ready (rs := [1]) (by kernel_rfl) (by simp) ?_
  refine AllReadyH.cons (o := _) rfl (fun K hK => ?_) AllReadyH.nil
  simp only [List.getElem_toArray, List.getElem_cons_zero, List.getElem_cons_succ]
  go_simp
  refine (CN.out _ (Keeps.drew [] w)).mono ?_
  rintro e w2 ⟨rfl, rfl⟩
  refine hK.out _ _ c15 (fun hHeld => ?_)
  clear hK K
  try simp only [List.getElem_toArray, List.getElem_cons_zero, List.getElem_cons_succ, Act.put, List.setIfInBounds_toArray, List.set_cons_zero, List.set_cons_succ]
  refine wpAnyH_take (i := 2) (oi := _) (v := ?v2) rfl (by kernel_rfl) (by kernel_rfl) (by kernel_rfl) (fun _ _ _ h => h) (Or.inl ⟨by rfl, ?hy2⟩) (by assumption) ?rest2
  case hy2 => (intro w hSw; (try dsimp only at hSw); go_simp; try (with_reducible rfl))
  try simp only [List.getElem_toArray, List.getElem_cons_zero, List.getElem_cons_succ, Act.put, List.setIfInBounds_toArray, List.set_cons_zero, List.set_cons_succ]
  refine wpAnyH_take (i := 3) (oi := _) (v := ?v3) rfl (by kernel_rfl) (by kernel_rfl) (by kernel_rfl) (fun _ _ _ h => h) (Or.inl ⟨by rfl, ?hy3⟩) (by assumption) ?rest3
  case hy3 => (intro w hSw; (try dsimp only at hSw); go_simp; try (with_reducible rfl))
  try simp only [List.getElem_toArray, List.getElem_cons_zero, List.getElem_cons_succ, Act.put, List.setIfInBounds_toArray, List.set_cons_zero, List.set_cons_succ]
  refine wpAnyH_take (i := 4) (oi := _) (v := ?v4) rfl (by kernel_rfl) (by kernel_rfl) (by kernel_rfl) (fun _ _ _ h => h) (Or.inl ⟨by rfl, ?hy4⟩) (by assumption) ?rest4
  case hy4 => (intro w hSw; (try dsimp only at hSw); go_simp; try (with_reducible rfl))
  try simp only [List.getElem_toArray, List.getElem_cons_zero, List.getElem_cons_succ, Act.put, List.setIfInBounds_toArray, List.set_cons_zero, List.set_cons_succ]
  refine wpAnyH_take (i := 5) (oi := _) (v := ?v5) rfl (by kernel_rfl) (by kernel_rfl) (by kernel_rfl) (fun _ _ _ h => h) (Or.inl ⟨by rfl, ?hy5⟩) (by assumption) ?rest5
  case hy5 => (intro w hSw; (try dsimp only at hSw); go_simp; try (with_reducible rfl))
  try simp only [List.getElem_toArray, List.getElem_cons_zero, List.getElem_cons_succ, Act.put, List.setIfInBounds_toArray, List.set_cons_zero, List.set_cons_succ]
  refine wpAnyH_take (i := 6) (oi := _) (v := ?v6) rfl (by kernel_rfl) (by kernel_rfl) (by kernel_rfl) (fun _ _ _ h => h) (Or.inl ⟨by rfl, ?hy6⟩) (by assumption) ?rest6
  case hy6 => (intro w hSw; (try dsimp only at hSw); go_simp; try (with_reducible rfl))
  try simp only [List.getElem_toArray, List.getElem_cons_zero, List.getElem_cons_succ, Act.put, List.setIfInBounds_toArray, List.set_cons_zero, List.set_cons_succ]
  refine wpAnyH_take (i := 7) (oi := _) (v := ?v7) rfl (by kernel_rfl) (by kernel_rfl) (by kernel_rfl) (fun _ _ _ h => h) (Or.inl ⟨by rfl, ?hy7⟩) (by assumption) ?rest7
  case hy7 => (intro w hSw; (try dsimp only at hSw); go_simp; try (with_reducible rfl))
  try simp only [List.getElem_toArray, List.getElem_cons_zero, List.getElem_cons_succ, Act.put, List.setIfInBounds_toArray, List.set_cons_zero, List.set_cons_succ]
  refine wpAnyH_take (i := 8) (oi := _) (v := ?v8) rfl (by kernel_rfl) (by kernel_rfl) (by kernel_rfl) (fun _ _ _ h => h) (Or.inl ⟨by rfl, ?hy8⟩) (by assumption) ?rest8
  case hy8 => (intro w hSw; (try dsimp only at hSw); go_simp; try (with_reducible rfl))
  try simp only [List.getElem_toArray, List.getElem_cons_zero, List.getElem_cons_succ, Act.put, List.setIfInBounds_toArray, List.set_cons_zero, List.set_cons_succ]
  refine wpAnyH_take (i := 9) (oi := _) (v := ?v9) rfl (by kernel_rfl) (by kernel_rfl) (by kernel_rfl) (fun _ _ _ h => h) (Or.inl ⟨by rfl, ?hy9⟩) (by assumption) ?rest9
  case hy9 => (intro w hSw; (try dsimp only at hSw); go_simp; try (with_reducible rfl))
  try simp only [List.getElem_toArray, List.getElem_cons_zero, List.getElem_cons_succ, Act.put, List.setIfInBounds_toArray, List.set_cons_zero, List.set_cons_succ]
  refine wpAnyH_take (i := 10) (oi := _) (v := ?v10) rfl (by kernel_rfl) (by kernel_rfl) (by kernel_rfl) (fun _ _ _ h => h) (Or.inl ⟨by rfl, ?hy10⟩) (by assumption) ?rest10
  case hy10 => (intro w hSw; (try dsimp only at hSw); go_simp; try (with_reducible rfl))
  try simp only [List.getElem_toArray, List.getElem_cons_zero, List.getElem_cons_succ, Act.put, List.setIfInBounds_toArray, List.set_cons_zero, List.set_cons_succ]
  refine wpAnyH_take (i := 11) (oi := _) (v := undef) rfl (by kernel_rfl) (by kernel_rfl) (by kernel_rfl) (fun _ _ _ h => h) (Or.inr ⟨by rfl, rfl⟩) (by assumption) ?_
  try simp only [List.getElem_toArray, List.getElem_cons_zero, List.getElem_cons_succ, Act.put, List.setIfInBounds_toArray, List.set_cons_zero, List.set_cons_succ]
  refine wpAnyH_take (i := 12) (oi := _) (v := undef) rfl (by kernel_rfl) (by kernel_rfl) (by kernel_rfl) (fun _ _ _ h => h) (Or.inr ⟨by rfl, rfl⟩) (by assumption) ?_
  try simp only [List.getElem_toArray, List.getElem_cons_zero, List.getElem_cons_succ, Act.put, List.setIfInBounds_toArray, List.set_cons_zero, List.set_cons_succ]
  refine wpAnyH_take (i := 13) (oi := _) (v := undef) rfl (by kernel_rfl) (by kernel_rfl) (by kernel_rfl) (fun _ _ _ h => h) (Or.inr ⟨by rfl, rfl⟩) (by assumption) ?_
  try simp only [List.getElem_toArray, List.getElem_cons_zero, List.getElem_cons_succ, Act.put, List.setIfInBounds_toArray, List.set_cons_zero, List.set_cons_succ]
  refine wpAnyH_take (i := 14) (oi := _) (v := undef) rfl (by kernel_rfl) (by kernel_rfl) (by kernel_rfl) (fun _ _ _ h => h) (Or.inr ⟨by rfl, rfl⟩) (by assumption) ?_
  try simp only [List.getElem_toArray, List.getElem_cons_zero, List.getElem_cons_succ, Act.put, List.setIfInBounds_toArray, List.set_cons_zero, List.set_cons_succ]
  refine wpAnyH_take (i := 15) (oi := _) (v := undef) rfl (by kernel_rfl) (by kernel_rfl) (by kernel_rfl) (fun _ _ _ h => h) (Or.inr ⟨by rfl, rfl⟩) (by assumption) ?_
  try simp only [List.getElem_toArray, List.getElem_cons_zero, List.getElem_cons_succ, Act.put, List.setIfInBounds_toArray, List.set_cons_zero, List.set_cons_succ]
  refine wpAnyH_take (i := 16) (oi := _) (v := ?v11) rfl (by kernel_rfl) (by kernel_rfl) (by kernel_rfl) (fun _ _ _ h => h) (Or.inl ⟨by rfl, ?hy11⟩) (by assumption) ?rest11
  case hy11 => (intro w hSw; (try dsimp only at hSw); go_simp; try (with_reducible rfl))
  try simp only [List.getElem_toArray, List.getElem_cons_zero, List.getElem_cons_succ, Act.put, List.setIfInBounds_toArray, List.set_cons_zero, List.set_cons_succ]
  refine wpAnyH_take (i := 17) (oi := _) (v := ?v12) rfl (by kernel_rfl) (by kernel_rfl) (by kernel_rfl) (fun _ _ _ h => h) (Or.inl ⟨by rfl, ?hy12⟩) (by assumption) ?rest12
  case hy12 => (intro w hSw; (try dsimp only at hSw); go_simp; try (with_reducible rfl))
  try simp only [List.getElem_toArray, List.getElem_cons_zero, List.getElem_cons_succ, Act.put, List.setIfInBounds_toArray, List.set_cons_zero, List.set_cons_succ]
  refine wpAnyH_take (i := 18) (oi := _) (v := undef) rfl (by kernel_rfl) (by kernel_rfl) (by kernel_rfl) (fun _ _ _ h => h) (Or.inr ⟨by rfl, rfl⟩) (by assumption) ?_
  try simp only [List.getElem_toArray, List.getElem_cons_zero, List.getElem_cons_succ, Act.put, List.setIfInBounds_toArray, List.set_cons_zero, List.set_cons_succ]
  refine wpAnyH_take (i := 19) (oi := _) (v := undef) rfl (by kernel_rfl) (by kernel_rfl) (by kernel_rfl) (fun _ _ _ h => h) (Or.inr ⟨by rfl, rfl⟩) (by assumption) ?_
  try simp only [List.getElem_toArray, List.getElem_cons_zero, List.getElem_cons_succ, Act.put, List.setIfInBounds_toArray, List.set_cons_zero, List.set_cons_succ]
  refine wpAnyH_take (i := 20) (oi := _) (v := undef) rfl (by kernel_rfl) (by kernel_rfl) (by kernel_rfl) (fun _ _ _ h => h) (Or.inr ⟨by rfl, rfl⟩) (by assumption) ?_
  try simp only [List.getElem_toArray, List.getElem_cons_zero, List.getElem_cons_succ, Act.put, List.setIfInBounds_toArray, List.set_cons_zero, List.set_cons_succ]
  refine wpAnyH_take (i := 21) (oi := _) (v := undef) rfl (by kernel_rfl) (by kernel_rfl) (by kernel_rfl) (fun _ _ _ h => h) (Or.inr ⟨by rfl, rfl⟩) (by assumption) ?_
  try simp only [List.getElem_toArray, List.getElem_cons_zero, List.getElem_cons_succ, Act.put, List.setIfInBounds_toArray, List.set_cons_zero, List.set_cons_succ]
  refine wpAnyH_take (i := 22) (oi := _) (v := undef) rfl (by kernel_rfl) (by kernel_rfl) (by kernel_rfl) (fun _ _ _ h => h) (Or.inr ⟨by rfl, rfl⟩) (by assumption) ?_
  try simp only [List.getElem_toArray, List.getElem_cons_zero, List.getElem_cons_succ, Act.put, List.setIfInBounds_toArray, List.set_cons_zero, List.set_cons_succ]
  refine wpAnyH_take (i := 23) (oi := _) (v := undef) rfl (by kernel_rfl) (by kernel_rfl) (by kernel_rfl) (fun _ _ _ h => h) (Or.inr ⟨by rfl, rfl⟩) (by assumption) ?_
  try simp only [List.getElem_toArray, List.getElem_cons_zero, List.getElem_cons_succ, Act.put, List.setIfInBounds_toArray, List.set_cons_zero, List.set_cons_succ]
  refine wpAnyH_take (i := 24) (oi := _) (v := undef) rfl (by kernel_rfl) (by kernel_rfl) (by kernel_rfl) (fun _ _ _ h => h) (Or.inr ⟨by rfl, rfl⟩) (by assumption) ?_
  try simp only [List.getElem_toArray, List.getElem_cons_zero, List.getElem_cons_succ, Act.put, List.setIfInBounds_toArray, List.set_cons_zero, List.set_cons_succ]
  refine wpAnyH_take (i := 25) (oi := _) (v := undef) rfl (by kernel_rfl) (by kernel_rfl) (by kernel_rfl) (fun _ _ _ h => h) (Or.inr ⟨by rfl, rfl⟩) (by assumption) ?_
  try simp only [List.getElem_toArray, List.getElem_cons_zero, List.getElem_cons_succ, Act.put, List.setIfInBounds_toArray, List.set_cons_zero, List.set_cons_succ]
  refine wpAnyH_take (i := 26) (oi := _) (v := undef) rfl (by kernel_rfl) (by kernel_rfl) (by kernel_rfl) (fun _ _ _ h => h) (Or.inr ⟨by rfl, rfl⟩) (by assumption) ?_
  try simp only [List.getElem_toArray, List.getElem_cons_zero, List.getElem_cons_succ, Act.put, List.setIfInBounds_toArray, List.set_cons_zero, List.set_cons_succ]
  refine wpAnyH_take (i := 27) (oi := _) (v := undef) rfl (by kernel_rfl) (by kernel_rfl) (by kernel_rfl) (fun _ _ _ h => h) (Or.inr ⟨by rfl, rfl⟩) (by assumption) ?_
  try simp only [List.getElem_toArray, List.getElem_cons_zero, List.getElem_cons_succ, Act.put, List.setIfInBounds_toArray, List.set_cons_zero, List.set_cons_succ]
  refine wpAnyH_take (i := 28) (oi := _) (v := undef) rfl (by kernel_rfl) (by kernel_rfl) (by kernel_rfl) (fun _ _ _ h => h) (Or.inr ⟨by rfl, rfl⟩) (by assumption) ?_
  try simp only [List.getElem_toArray, List.getElem_cons_zero, List.getElem_cons_succ, Act.put, List.setIfInBounds_toArray, List.set_cons_zero, List.set_cons_succ]
  refine wpAnyH_take (i := 29) (oi := _) (v := ?v13) rfl (by kernel_rfl) (by kernel_rfl) (by kernel_rfl) (fun _ _ _ h => h) (Or.inl ⟨by rfl, ?hy13⟩) (by assumption) ?rest13
  case hy13 => (intro w hSw; (try dsimp only at hSw); go_simp; try (with_reducible rfl))
  try simp only [List.getElem_toArray, List.getElem_cons_zero, List.getElem_cons_succ, Act.put, List.setIfInBounds_toArray, List.set_cons_zero, List.set_cons_succ]
  refine wpAnyH_take (i := 30) (oi := _) (v := ?v14) rfl (by kernel_rfl) (by kernel_rfl) (by kernel_rfl) (fun _ _ _ h => h) (Or.inl ⟨by rfl, ?hy14⟩) (by assumption) ?rest14
  case hy14 => (intro w hSw; (try dsimp only at hSw); go_simp; try (with_reducible rfl))
  try simp only [List.getElem_toArray, List.getElem_cons_zero, List.getElem_cons_succ, Act.put, List.setIfInBounds_toArray, List.set_cons_zero, List.set_cons_succ]
  refine wpAnyH_done (by kernel_rfl) ?_ _
  go_wp2_with fail
  go_ret
  exact ⟨rfl, Keeps.drew [] w⟩
end Go.Proofs.YtakgohocimlagaaGreat

namespace Go.Proofs.YtakgohocimlagaaGreat
open Go.RowKit Go.Lib
set_option linter.unusedVariables false
set_option linter.unusedSimpArgs false

/-- a segment as it lies -/
structure GS where
  sp : Int
  dp : Int
  sq : Int
  ak : Int
  fl : Int
  wn : Int
  ug : Int
  oA : Option Addr
  oN : Nat
  oC : Nat
  dA : Option Addr
  dN : Nat
  dC : Nat
def gsC (g : GS) : List Value := [.int .u16 g.sp, .int .u16 g.dp, .int .u32 g.sq, .int .u32 g.ak, .int .u8 g.fl, .int .u16 g.wn, .int .u16 g.ug, .slice g.oA g.oN g.oC, .slice g.dA g.dN g.dC]
def gsK : EK GS := ⟨gsC, 9, fun _ => rfl, by decide, fun x u h => by
  simp only [gsC, List.mem_cons, List.not_mem_nil, or_false] at h
  rcases h with rfl | rfl | rfl | rfl | rfl | rfl | rfl | rfl | rfl <;> rfl⟩
def toGS (s : ES) (x : PC) : GS := ⟨s.loc, s.rem, x.sq, (s.irs + 1) % 4294967296, 24, 0, 0, none, 0, 0, x.A, x.n, x.c⟩
theorem seg_row (s : ES) (l : List PC) : (segK s).row l = gsK.row (l.map (toGS s)) := by
  unfold EK.row
  rw [List.flatMap_map]
  rfl
theorem own_gs {s : ES} {w : World} {base el : Nat} {v : Value} {l : List PC} (h : (segK s).Own w base el v l) : gsK.Own w base el v (l.map (toGS s)) := by
  unfold EK.Own at h ⊢
  rw [List.length_map, ← seg_row]
  exact h
end Go.Proofs.YtakgohocimlagaaGreat

