/-
  The walks of package endp towards a server (13): Connect; Tick where Opening. Condition: an end's numbers are in the ranges of their kinds.
-/
import Derived.Test.YtakgohocimlagaaGreatEsL
import Derived.Test.YtakgohocimlagaaGreatEpZ
namespace Go.Proofs.YtakgohocimlagaaGreat
open Go.RowKit Go.Lib
set_option linter.unusedVariables false
set_option linter.unusedSimpArgs false

def opE (iss : Int) (wri : Value) (al wt ct : Int) : ES := ⟨1, 2, iss, 1460, 7, true, 100, 4, 10, iss, 0, 0, -1, false, 0, 1, .pointer none, .slice none 0 0, false, .pointer none, wri, al, wt, ct⟩
def onE (iss irs : Int) (M win r : Nat) (sk : Bool) (wri : Value) (al wt ct : Int) : ES := ⟨1, 2, iss, 1460, 7, true, 100, 4, 10, iss, irs, M, -1, sk, win, 2, .pointer none, .slice none 0 0, false, .pointer (some ⟨r, 0, none⟩), wri, al, wt, ct⟩
/-- its SYN's options -/
def synO : List O := [(2, put16 1460), (3, put8 7), (4, [])]
/-- its SYN as it lies -/
def synC (iss : Int) (v : Value) : Array Value := #[.int .u16 1, .int .u16 2, .int .u32 iss, .int .u32 0, .int .u8 2, .int .u16 0, .int .u16 0, v, .slice none 0 0]

set_option maxRecDepth 100000 in
set_option maxHeartbeats 4000000 in
theorem etick_opening {w : World} {x : Nat} {iss : Int} {wri : Value} {al wt ct : Int} (h : EndAt w x (opE iss wri al wt ct)) (now : Int) (ha : al ≤ now) (n0 : 0 ≤ now) (n1 : now ≤ 4398046511104) (hc : ct < 10) (c0 : 0 ≤ ct) (w0 : 0 ≤ wt) (w1 : wt ≤ 2199023255552) :
    Calls Tryz.prog 19 #[.pointer (some ⟨x, 0, none⟩), .int .u64 now] w fun e w' => ∃ g A c, e = .returned (.tuple #[.slice (some ⟨g, 0, none⟩) 1 1, .int .i64 0]) ∧ w.heap.size ≤ g ∧ w'.heap[g]? = some (.cells (synC iss (.slice A 3 c)) 39 (0, 0)) ∧ OptsV w' (.slice A 3 c) synO ∧ EndAt w' x (opE iss wri (now + wt * 2) (wt * 2) (ct + 1)) ∧ Keeps [x] w w' := by
  have CA := Lib.hid (ealarm_opening h rfl rfl)
  have CN := Lib.hid (enone_no h (by simp [opE]))
  have H := Lib.hid h
  have e2 : decide (now < al) = false := decide_eq_false (by omega)
  have e3 : (ct == 10) = false := beq_eq_false_iff_ne.mpr (by omega)
  have i1 : IntKind.i64.wrap (ct + 1) = ct + 1 := by rw [IntKind.wrap_i64]; omega
  have i2 : IntKind.u64.wrap (wt * 2) = wt * 2 := by rw [IntKind.wrap_u64]; omega
  have i3 : IntKind.u64.wrap (now + wt * 2) = now + wt * 2 := by rw [IntKind.wrap_u64]; omega
  have c8 := h.c8
  have c15 := h.c15
  have c23 := h.c23
  simp only [opE] at c8 c15 c23 CA
  have hlt := h.lt
  clear h ha n0 n1 hc c0 w0 w1
  go_enter Tryz.func19, Tryz.ntmps19
  go_wp2_with fail
  refine CA.out.mono ?_
  rintro e wa ⟨rfl, rfl⟩
  go_wp2_with fail
  refine CN.out.mono ?_
  rintro e wb ⟨rfl, rfl⟩
  go_upto_region 7 with fail
  go_quiet (fail)
  go_upto_region 10 with fail
  refine wp_gn (fun W1 hW1 => ?_)
  have k1 : Keeps [] w W1 := by rw [hW1]; (repeat (first | with_reducible assumption | with_reducible exact Keeps.refl _ _ | with_reducible apply Keeps.alloc' | with_reducible apply Keeps.drew' | with_reducible apply Keeps.drewN' | (with_reducible apply Keeps.setCell'; rotate_left; · simp)))
  have H1 := Lib.hid (H.out.keep0 k1)
  have K1 := Lib.hid k1
  have d21 := H1.out.c21
  have d22 := H1.out.c22
  have d23 := H1.out.c23
  have z21 := H1.out.fz 21
  have z22 := H1.out.fz 22
  have z23 := H1.out.fz 23
  simp only [opE] at d21 d22 d23
  clear hW1 k1 c8 c15 c23
  go_upto_region 13 with fail
  refine wp_gn (fun W2 hW2 => ?_)
  have h2 : EndAt W2 x (opE iss wri (now + wt * 2) (wt * 2) (ct + 1)) := by rw [hW2]; exact ((H1.out.s23 _).s22 _).s21 _
  have k2 : Keeps [x] W1 W2 := by rw [hW2]; exact ((Keeps.setCell W1 ⟨x, 23, none⟩ _).trans (Keeps.setCell _ ⟨x, 22, none⟩ _)).trans (Keeps.setCell _ ⟨x, 21, none⟩ _)
  have H2 := Lib.hid h2
  have K2 := Lib.hid ((K1.out.mono (T := [x]) (by simp)).trans k2)
  clear hW2 h2 k2 d21 d22 d23 z21 z22 z23
  go_wp2_with fail
  refine (esyn_ok H2.out (by simp [opE]) (by simp [opE]) (by simp [opE]) (by simp [opE]) rfl).mono ?_
  rintro e w3 ⟨A, c, rfl, ho, k3⟩
  have K3 := Lib.hid k3
  have HO := Lib.hid ho
  have H3 := Lib.hid (H2.out.keep0 k3)
  unfold segV
  clear k3 ho
  go_wp2_with fail
  have k4 : Keeps [] w3 (w3.alloc (.cells (synC iss (.slice A 3 c)) 39)) := Keeps.alloc [] w3 _
  refine bodyPost_ret (v := .tuple #[.slice (some ⟨w3.heap.size, 0, none⟩) 1 1, .int .i64 0]) (by simp [results, Tryz.results19, go_sem]) rfl ⟨w3.heap.size, A, c, rfl, Nat.le_trans K2.out.size K3.out.size, (MapKept.heap_alloc w3 _).1, HO.out.keep0 k4, H3.out.keep0 k4, K2.out.trans ((K3.out.trans k4).mono (by simp))⟩
set_option maxRecDepth 100000 in
set_option maxHeartbeats 4000000 in
theorem etick_opening_full {w : World} {x : Nat} {iss : Int} {wri : Value} {al wt ct : Int} (h : EndAt w x (opE iss wri al wt ct)) (now : Int) (ha : al ≤ now) (hc : ct = 10) :
    Calls Tryz.prog 19 #[.pointer (some ⟨x, 0, none⟩), .int .u64 now] w fun e w' => e = .returned (.tuple #[.slice none 0 0, .int .i64 0]) ∧ EndAt w' x { opE iss wri al wt ct with st := 4 } ∧ Keeps [x] w w' := by
  have CA := Lib.hid (ealarm_opening h rfl rfl)
  have CN := Lib.hid (enone_no h (by simp [opE]))
  have H := Lib.hid h
  have e2 : decide (now < al) = false := decide_eq_false (by omega)
  subst hc
  have c8 := h.c8
  have c15 := h.c15
  have c23 := h.c23
  have z15 := h.fz 15
  simp only [opE] at c8 c15 c23 CA
  have hlt := h.lt
  clear h ha
  go_enter Tryz.func19, Tryz.ntmps19
  go_wp2_with fail
  refine CA.out.mono ?_
  rintro e wa ⟨rfl, rfl⟩
  go_wp2_with fail
  refine CN.out.mono ?_
  rintro e wb ⟨rfl, rfl⟩
  go_upto_region 7 with fail
  go_quiet (fail)
  go_upto_region 8 with fail
  refine wp_gn (fun W1 hW1 => ?_)
  have k1 : Keeps [] w W1 := by rw [hW1]; (repeat (first | with_reducible assumption | with_reducible exact Keeps.refl _ _ | with_reducible apply Keeps.alloc' | with_reducible apply Keeps.drew' | with_reducible apply Keeps.drewN' | (with_reducible apply Keeps.setCell'; rotate_left; · simp)))
  have H1 := Lib.hid (H.out.keep0 k1)
  have K1 := Lib.hid k1
  have d15 := H1.out.c15
  have z15 := H1.out.fz 15
  simp only [opE] at d15
  clear hW1 k1 c8 c15 c23
  go_wp2_with fail
  refine bodyPost_ret (v := .tuple #[.slice none 0 0, .int .i64 0]) (by simp [results, Tryz.results19, go_sem]) rfl ⟨rfl, H1.out.s15 4, (K1.out.mono (by simp)).trans (Keeps.setCell W1 ⟨x, 15, none⟩ _)⟩
set_option maxRecDepth 100000 in
set_option maxHeartbeats 4000000 in
theorem econnect_ok (w : World) (iss : Int) (hu : U32 iss) :
    Calls Tryz.prog 17 #[setupV 1 2 iss 1460 7 true 100 4 10, .int .u64 0] w fun e w' => ∃ x g A c, e = .returned (.tuple #[.pointer (some ⟨x, 0, none⟩), .slice (some ⟨g, 0, none⟩) 1 1, .int .i64 0]) ∧ w.heap.size ≤ x ∧ w.heap.size ≤ g ∧ w'.heap[g]? = some (.cells (synC iss (.slice A 3 c)) 39 (0, 0)) ∧ OptsV w' (.slice A 3 c) synO ∧ EndAt w' x (opE iss (.slice none 0 0) 4 4 0) ∧ Keeps [] w w' := by
  have HM := Lib.hid (fun W => emay_ok W 1 2 iss 1460 7 true 100 4 10 (by decide) (by decide) (by decide) (by decide) (by decide) (by decide) (by decide) (by decide) (by decide) (by decide))
  unfold setupV at HM ⊢
  go_enter Tryz.func17, Tryz.ntmps17
  go_wp2_with fail
  refine (HM.out _).mono ?_
  rintro e w1 ⟨rfl, k1⟩
  have hS := (k1.block w.heap.size (by simp) (by simp)).trans (MapKept.heap_alloc w _).1
  have K1 := Lib.hid ((Keeps.alloc [] w _).trans k1)
  clear k1 HM
  have hSc0 := cell_of_block hS 0
  have hSc1 := cell_of_block hS 1
  have hSc2 := cell_of_block hS 2
  have hSc3 := cell_of_block hS 3
  have hSc4 := cell_of_block hS 4
  have hSc5 := cell_of_block hS 5
  have hSc6 := cell_of_block hS 6
  have hSc7 := cell_of_block hS 7
  have hSc8 := cell_of_block hS 8
  simp at hSc0 hSc1 hSc2 hSc3 hSc4 hSc5 hSc6 hSc7 hSc8
  have hSf0 := free_of_block hS 0
  have hSf1 := free_of_block hS 1
  have hSf2 := free_of_block hS 2
  have hSf3 := free_of_block hS 3
  have hSf4 := free_of_block hS 4
  have hSf5 := free_of_block hS 5
  have hSf6 := free_of_block hS 6
  have hSf7 := free_of_block hS 7
  have hSf8 := free_of_block hS 8
  clear hS
  go_upto_region 4 with fail
  refine wp_gn (fun W2 hW2 => ?_)
  have h2 : EndAt W2 w1.heap.size (opE iss (.slice none 0 0) 4 4 0) := by rw [hW2]; exact (MapKept.heap_alloc w1 _).1
  have k2 : Keeps [] w1 W2 := by rw [hW2]; exact Keeps.alloc _ _ _
  have H2 := Lib.hid h2
  have K2 := Lib.hid (K1.out.trans k2)
  clear hW2 h2 k2 hSc0 hSc1 hSc2 hSc3 hSc4 hSc5 hSc6 hSc7 hSc8 hSf0 hSf1 hSf2 hSf3 hSf4 hSf5 hSf6 hSf7 hSf8
  go_wp2_with fail
  refine (esyn_ok H2.out (by simp [opE]) (by simp [opE]) (by simp [opE]) (by simp [opE]) rfl).mono ?_
  rintro e w3 ⟨A, c, rfl, ho, k3⟩
  have K3 := Lib.hid k3
  have HO := Lib.hid ho
  have H3 := Lib.hid (H2.out.keep0 k3)
  unfold segV
  clear k3 ho
  go_wp2_with fail
  have k4 : Keeps [] w3 (w3.alloc (.cells (synC iss (.slice A 3 c)) 39)) := Keeps.alloc [] w3 _
  refine bodyPost_ret (v := .tuple #[.pointer (some ⟨w1.heap.size, 0, none⟩), .slice (some ⟨w3.heap.size, 0, none⟩) 1 1, .int .i64 0]) (by simp [results, Tryz.results17, go_sem]) rfl ⟨w1.heap.size, w3.heap.size, A, c, rfl, K1.out.size, Nat.le_trans K2.out.size K3.out.size, (MapKept.heap_alloc w3 _).1, HO.out.keep0 k4, H3.out.keep0 k4, K2.out.trans (K3.out.trans k4)⟩
end Go.Proofs.YtakgohocimlagaaGreat
