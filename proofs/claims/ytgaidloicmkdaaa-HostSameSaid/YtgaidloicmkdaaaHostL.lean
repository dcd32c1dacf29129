/-
  The walks of package host: open at an RST. Printed by tools/gen_hostl.py. Condition: a host's numbers are in the ranges of their kinds.
-/
import Derived.Test.YtgaidloicmkdaaaHostK
namespace Go.Proofs.Ytgaidloicmkdaaa
open Go.RowKit
set_option linter.unusedVariables false
set_option linter.unusedSimpArgs false
attribute [local go_sem ↓] Go.wp_at_zero Go.wp_at_succ

set_option maxRecDepth 100000 in
set_option maxHeartbeats 1000000 in
theorem hopen_rst_far {w : World} {b : Nat} {s : HS} (h : HostAt w b s) (ok : s.Ok) (g : Seg) (gok : g.Ok) (A1 A2 : Option Addr) (n1 c1 c2 : Nat) (hfl : g.fl = 4) (hdl : g.data.length ≤ 100000) (now : Int)
    (hacc : acceptI g.sq (lenI g) s.next s.free = false) :
    Calls Try.prog 35 #[.pointer (some ⟨b, 0, none⟩), segV g (.slice A1 n1 c1) (.slice A2 g.data.length c2), .int .u64 now] w fun e w' => e = .returned (.slice none 0 0) ∧ HostAt w' b s ∧ Keeps [b] w w' := by
  have LN : 0 ≤ lenI g ∧ lenI g ≤ 4294967295 := by unfold lenI bI; split <;> split <;> omega
  have hft := ok.free
  have hrm := ok.room
  have hin := ok.inn
  have hrd := ok.read
  have FR := Lib.hid (show s.free = s.room - (s.inn.length - s.read) from rfl)
  unfold HS.free at hft
  have HL := Lib.hid (fun W => length_any W g gok A1 A2 n1 c1 c2)
  have hac : ∀ W, Calls Try.prog 56 #[.int .u32 g.sq, .int .i64 (lenI g), .int .u32 s.next, .int .u32 (s.room - (s.inn.length - s.read))] W fun e w' => e = .returned (.bool false) ∧ Keeps [] W w' := by
    intro W
    have := accept_any W g.sq (lenI g) s.next s.free gok.sq ok.next LN.1 LN.2
    rw [hacc] at this
    exact this
  have HAC := Lib.hid hac
  have OK := Lib.hid ok
  have H := Lib.hid h
  have hlt := h.lt
  have b1 : (bits .and .u8 4 1 != 0) = false := by decide
  have b2 : (bits .and .u8 4 4 != 0) = true := by decide
  obtain ⟨ln0, ln1⟩ := LN
  clear h ok gok hacc hac
  unfold segV at *
  rw [hfl] at *
  go_enter Try.func35, Try.ntmps35
  go_upto_region 1 with fail
  refine wp_gn (fun W hW => ?_)
  have hx : W.heap[w.heap.size]? = some (.cells #[.int .u16 g.sp, .int .u16 g.dp, .int .u32 g.sq, .int .u32 g.ak, .int .u8 4, .int .u16 g.wn, .int .u16 g.ug, .slice A1 n1 c1, .slice A2 g.data.length c2] 30 (0, 0)) := by rw [hW]; exact (MapKept.heap_alloc w _).1
  have k0 : Keeps [] w W := by rw [hW]; exact Keeps.alloc _ _ _
  have H0 := Lib.hid (H.out.keep0 k0)
  have K0 := Lib.hid (k0.mono (T := [b]) (by simp))
  have HX := Lib.hid hx
  clear hW k0
  have hxc0 := cell_of_block hx 0
  have hxc1 := cell_of_block hx 1
  have hxc2 := cell_of_block hx 2
  have hxc3 := cell_of_block hx 3
  have hxc4 := cell_of_block hx 4
  have hxc5 := cell_of_block hx 5
  have hxc6 := cell_of_block hx 6
  have hxc7 := cell_of_block hx 7
  have hxc8 := cell_of_block hx 8
  simp at hxc0 hxc1 hxc2 hxc3 hxc4 hxc5 hxc6 hxc7 hxc8
  clear hx
  have c5 := H0.out.c5
  have c15 := H0.out.c15
  have c16 := H0.out.c16
  have c17 := H0.out.c17
  have s1 : IntKind.i64.wrap ((s.inn.length : Int) - s.read) = s.inn.length - s.read := by rw [IntKind.wrap_i64]; omega
  have s2 : IntKind.i64.wrap (s.room - ((s.inn.length : Int) - s.read)) = s.room - ((s.inn.length : Int) - s.read) := by rw [IntKind.wrap_i64]; omega
  have s3 : IntKind.u32.wrap (s.room - ((s.inn.length : Int) - s.read)) = s.room - ((s.inn.length : Int) - s.read) := by rw [IntKind.wrap_u32]; omega
  go_wp2_with fail
  go_quiet (fail)
  clear s1 s2 s3
  go_wp2_with fail
  have hl1 : IntKind.i64.wrap (lenI g) = lenI g := by rw [IntKind.wrap_i64]; omega
  go_region_held3 (fun w' => w'.cell? ⟨w.heap.size, 0, none⟩ = some (.int .u16 g.sp) ∧ w'.cell? ⟨w.heap.size, 1, none⟩ = some (.int .u16 g.dp) ∧ w'.cell? ⟨w.heap.size, 2, none⟩ = some (.int .u32 g.sq) ∧ w'.cell? ⟨w.heap.size, 3, none⟩ = some (.int .u32 g.ak) ∧ w'.cell? ⟨w.heap.size, 4, none⟩ = some (.int .u8 4) ∧ w'.cell? ⟨w.heap.size, 5, none⟩ = some (.int .u16 g.wn) ∧ w'.cell? ⟨w.heap.size, 6, none⟩ = some (.int .u16 g.ug) ∧ w'.cell? ⟨w.heap.size, 7, none⟩ = some (.slice A1 n1 c1) ∧ w'.cell? ⟨w.heap.size, 8, none⟩ = some (.slice A2 g.data.length c2) ∧ w'.cell? ⟨b, 15, none⟩ = some (.int .u32 s.next)) ((refine (fun kx => ⟨cell_keeps kx hxc0 (by simp), cell_keeps kx hxc1 (by simp), cell_keeps kx hxc2 (by simp), cell_keeps kx hxc3 (by simp), cell_keeps kx hxc4 (by simp), cell_keeps kx hxc5 (by simp), cell_keeps kx hxc6 (by simp), cell_keeps kx hxc7 (by simp), cell_keeps kx hxc8 (by simp), cell_keeps kx c15 (by simp)⟩ : Keeps [] W _ → _) ?_; (repeat (first | with_reducible assumption | with_reducible exact Keeps.refl _ _ | with_reducible apply Keeps.alloc' | with_reducible apply Keeps.drew' | with_reducible apply Keeps.drewN' | (with_reducible apply Keeps.setCell'; rotate_left; · simp))))) (first | (go_at_call 57; with_reducible refine (HL.out _).mono ?_; rintro e w5 ⟨rfl, k5⟩; have kw5 : Keeps [] W w5 := Keeps.trans (by (repeat (first | with_reducible assumption | with_reducible exact Keeps.refl _ _ | with_reducible apply Keeps.alloc' | with_reducible apply Keeps.drew' | with_reducible apply Keeps.drewN' | (with_reducible apply Keeps.setCell'; rotate_left; · simp)))) k5; clear k5) | (go_at_call 56; with_reducible refine (HAC.out _).mono ?_; rintro e w6 ⟨rfl, k6⟩; have kw6 : Keeps [] W w6 := Keeps.trans (by (repeat (first | with_reducible assumption | with_reducible exact Keeps.refl _ _ | with_reducible apply Keeps.alloc' | with_reducible apply Keeps.drew' | with_reducible apply Keeps.drewN' | (with_reducible apply Keeps.setCell'; rotate_left; · simp)))) k6; clear k6))
  clear hl1 hxc0 hxc1 hxc2 hxc3 hxc4 hxc5 hxc6 hxc7 hxc8 c5 c15 c16 c17 kw5
  have hx6 := (kw6.block _ (Array.getElem?_eq_some_iff.1 HX.out).1 (by simp)).trans HX.out
  have H6 := Lib.hid (H0.out.keep0 kw6)
  have K6 := Lib.hid (K0.out.trans (kw6.mono (by simp)))
  clear kw6
  have hx6c0 := cell_of_block hx6 0
  have hx6c1 := cell_of_block hx6 1
  have hx6c2 := cell_of_block hx6 2
  have hx6c3 := cell_of_block hx6 3
  have hx6c4 := cell_of_block hx6 4
  have hx6c5 := cell_of_block hx6 5
  have hx6c6 := cell_of_block hx6 6
  have hx6c7 := cell_of_block hx6 7
  have hx6c8 := cell_of_block hx6 8
  simp at hx6c0 hx6c1 hx6c2 hx6c3 hx6c4 hx6c5 hx6c6 hx6c7 hx6c8
  clear hx6
  have c15 := H6.out.c15
  have f8 := H6.out.fz 8
  go_wp2_with fail
  refine bodyPost_ret (v := .slice none 0 0) (by simp [results, Try.results35, go_sem]) rfl ⟨rfl, ?_, ?_⟩
  · exact H6.out.keep0 (by (repeat (first | with_reducible exact Keeps.refl _ _ | with_reducible apply Keeps.alloc' | with_reducible apply Keeps.drew' | with_reducible apply Keeps.drewN' | (with_reducible apply Keeps.setCell'; rotate_left; · simp))))
  · exact K6.out.trans (by (repeat (first | with_reducible exact Keeps.refl _ _ | with_reducible apply Keeps.alloc' | with_reducible apply Keeps.drew' | with_reducible apply Keeps.drewN' | (with_reducible apply Keeps.setCell'; rotate_left; · simp))))


set_option maxRecDepth 100000 in
set_option maxHeartbeats 1000000 in
theorem hopen_rst_near {w : World} {b : Nat} {s : HS} (h : HostAt w b s) (ok : s.Ok) (g : Seg) (gok : g.Ok) (A1 A2 : Option Addr) (n1 c1 c2 : Nat) (hfl : g.fl = 4) (hdl : g.data.length ≤ 100000) (now : Int)
    (hacc : acceptI g.sq (lenI g) s.next s.free = true) (hq : (g.sq != s.next) = true) :
    Calls Try.prog 35 #[.pointer (some ⟨b, 0, none⟩), segV g (.slice A1 n1 c1) (.slice A2 g.data.length c2), .int .u64 now] w fun e w' => ∃ v, e = .returned v ∧ OneSeg w' v s.ack (.slice none 0 0) (.slice none 0 0) ∧ HostAt w' b s ∧ Keeps [b] w w' := by
  have LN : 0 ≤ lenI g ∧ lenI g ≤ 4294967295 := by unfold lenI bI; split <;> split <;> omega
  have hft := ok.free
  have hrm := ok.room
  have hin := ok.inn
  have hrd := ok.read
  have FR := Lib.hid (show s.free = s.room - (s.inn.length - s.read) from rfl)
  unfold HS.free at hft
  have HL := Lib.hid (fun W => length_any W g gok A1 A2 n1 c1 c2)
  have hac : ∀ W, Calls Try.prog 56 #[.int .u32 g.sq, .int .i64 (lenI g), .int .u32 s.next, .int .u32 (s.room - (s.inn.length - s.read))] W fun e w' => e = .returned (.bool true) ∧ Keeps [] W w' := by
    intro W
    have := accept_any W g.sq (lenI g) s.next s.free gok.sq ok.next LN.1 LN.2
    rw [hacc] at this
    exact this
  have HAC := Lib.hid hac
  have OK := Lib.hid ok
  have H := Lib.hid h
  have hlt := h.lt
  have b1 : (bits .and .u8 4 1 != 0) = false := by decide
  have b2 : (bits .and .u8 4 4 != 0) = true := by decide
  obtain ⟨ln0, ln1⟩ := LN
  clear h ok gok hacc hac
  unfold segV at *
  rw [hfl] at *
  go_enter Try.func35, Try.ntmps35
  go_upto_region 1 with fail
  refine wp_gn (fun W hW => ?_)
  have hx : W.heap[w.heap.size]? = some (.cells #[.int .u16 g.sp, .int .u16 g.dp, .int .u32 g.sq, .int .u32 g.ak, .int .u8 4, .int .u16 g.wn, .int .u16 g.ug, .slice A1 n1 c1, .slice A2 g.data.length c2] 30 (0, 0)) := by rw [hW]; exact (MapKept.heap_alloc w _).1
  have k0 : Keeps [] w W := by rw [hW]; exact Keeps.alloc _ _ _
  have H0 := Lib.hid (H.out.keep0 k0)
  have K0 := Lib.hid (k0.mono (T := [b]) (by simp))
  have HX := Lib.hid hx
  clear hW k0
  have hxc0 := cell_of_block hx 0
  have hxc1 := cell_of_block hx 1
  have hxc2 := cell_of_block hx 2
  have hxc3 := cell_of_block hx 3
  have hxc4 := cell_of_block hx 4
  have hxc5 := cell_of_block hx 5
  have hxc6 := cell_of_block hx 6
  have hxc7 := cell_of_block hx 7
  have hxc8 := cell_of_block hx 8
  simp at hxc0 hxc1 hxc2 hxc3 hxc4 hxc5 hxc6 hxc7 hxc8
  clear hx
  have c5 := H0.out.c5
  have c15 := H0.out.c15
  have c16 := H0.out.c16
  have c17 := H0.out.c17
  have s1 : IntKind.i64.wrap ((s.inn.length : Int) - s.read) = s.inn.length - s.read := by rw [IntKind.wrap_i64]; omega
  have s2 : IntKind.i64.wrap (s.room - ((s.inn.length : Int) - s.read)) = s.room - ((s.inn.length : Int) - s.read) := by rw [IntKind.wrap_i64]; omega
  have s3 : IntKind.u32.wrap (s.room - ((s.inn.length : Int) - s.read)) = s.room - ((s.inn.length : Int) - s.read) := by rw [IntKind.wrap_u32]; omega
  go_wp2_with fail
  go_quiet (fail)
  clear s1 s2 s3
  go_wp2_with fail
  have hl1 : IntKind.i64.wrap (lenI g) = lenI g := by rw [IntKind.wrap_i64]; omega
  go_region_held3 (fun w' => w'.cell? ⟨w.heap.size, 0, none⟩ = some (.int .u16 g.sp) ∧ w'.cell? ⟨w.heap.size, 1, none⟩ = some (.int .u16 g.dp) ∧ w'.cell? ⟨w.heap.size, 2, none⟩ = some (.int .u32 g.sq) ∧ w'.cell? ⟨w.heap.size, 3, none⟩ = some (.int .u32 g.ak) ∧ w'.cell? ⟨w.heap.size, 4, none⟩ = some (.int .u8 4) ∧ w'.cell? ⟨w.heap.size, 5, none⟩ = some (.int .u16 g.wn) ∧ w'.cell? ⟨w.heap.size, 6, none⟩ = some (.int .u16 g.ug) ∧ w'.cell? ⟨w.heap.size, 7, none⟩ = some (.slice A1 n1 c1) ∧ w'.cell? ⟨w.heap.size, 8, none⟩ = some (.slice A2 g.data.length c2) ∧ w'.cell? ⟨b, 15, none⟩ = some (.int .u32 s.next)) ((refine (fun kx => ⟨cell_keeps kx hxc0 (by simp), cell_keeps kx hxc1 (by simp), cell_keeps kx hxc2 (by simp), cell_keeps kx hxc3 (by simp), cell_keeps kx hxc4 (by simp), cell_keeps kx hxc5 (by simp), cell_keeps kx hxc6 (by simp), cell_keeps kx hxc7 (by simp), cell_keeps kx hxc8 (by simp), cell_keeps kx c15 (by simp)⟩ : Keeps [] W _ → _) ?_; (repeat (first | with_reducible assumption | with_reducible exact Keeps.refl _ _ | with_reducible apply Keeps.alloc' | with_reducible apply Keeps.drew' | with_reducible apply Keeps.drewN' | (with_reducible apply Keeps.setCell'; rotate_left; · simp))))) (first | (go_at_call 57; with_reducible refine (HL.out _).mono ?_; rintro e w5 ⟨rfl, k5⟩; have kw5 : Keeps [] W w5 := Keeps.trans (by (repeat (first | with_reducible assumption | with_reducible exact Keeps.refl _ _ | with_reducible apply Keeps.alloc' | with_reducible apply Keeps.drew' | with_reducible apply Keeps.drewN' | (with_reducible apply Keeps.setCell'; rotate_left; · simp)))) k5; clear k5) | (go_at_call 56; with_reducible refine (HAC.out _).mono ?_; rintro e w6 ⟨rfl, k6⟩; have kw6 : Keeps [] W w6 := Keeps.trans (by (repeat (first | with_reducible assumption | with_reducible exact Keeps.refl _ _ | with_reducible apply Keeps.alloc' | with_reducible apply Keeps.drew' | with_reducible apply Keeps.drewN' | (with_reducible apply Keeps.setCell'; rotate_left; · simp)))) k6; clear k6))
  clear hl1 hxc0 hxc1 hxc2 hxc3 hxc4 hxc5 hxc6 hxc7 hxc8 c5 c15 c16 c17 kw5
  have hx6 := (kw6.block _ (Array.getElem?_eq_some_iff.1 HX.out).1 (by simp)).trans HX.out
  have H6 := Lib.hid (H0.out.keep0 kw6)
  have K6 := Lib.hid (K0.out.trans (kw6.mono (by simp)))
  clear kw6
  have hx6c0 := cell_of_block hx6 0
  have hx6c1 := cell_of_block hx6 1
  have hx6c2 := cell_of_block hx6 2
  have hx6c3 := cell_of_block hx6 3
  have hx6c4 := cell_of_block hx6 4
  have hx6c5 := cell_of_block hx6 5
  have hx6c6 := cell_of_block hx6 6
  have hx6c7 := cell_of_block hx6 7
  have hx6c8 := cell_of_block hx6 8
  simp at hx6c0 hx6c1 hx6c2 hx6c3 hx6c4 hx6c5 hx6c6 hx6c7 hx6c8
  clear hx6
  have c15 := H6.out.c15
  have f8 := H6.out.fz 8
  go_wp2_with fail
  go_quiet (fail)
  go_wp2_with fail
  refine (hacks_any (H6.out.keep0 (by (repeat (first | with_reducible exact Keeps.refl _ _ | with_reducible apply Keeps.alloc' | with_reducible apply Keeps.drew' | with_reducible apply Keeps.drewN' | (with_reducible apply Keeps.setCell'; rotate_left; · simp))))) OK.out).mono ?_
  rintro e w7 ⟨v, rfl, o7, k7⟩
  have O7 := Lib.hid o7
  have H7 := Lib.hid (H6.out.keep0 (Keeps.trans (by (repeat (first | with_reducible assumption | with_reducible exact Keeps.refl _ _ | with_reducible apply Keeps.alloc' | with_reducible apply Keeps.drew' | with_reducible apply Keeps.drewN' | (with_reducible apply Keeps.setCell'; rotate_left; · simp)))) k7))
  have K7 := Lib.hid (K6.out.trans ((Keeps.trans (by (repeat (first | with_reducible assumption | with_reducible exact Keeps.refl _ _ | with_reducible apply Keeps.alloc' | with_reducible apply Keeps.drew' | with_reducible apply Keeps.drewN' | (with_reducible apply Keeps.setCell'; rotate_left; · simp)))) k7 : Keeps [] w6 w7).mono (by simp)))
  clear o7 k7
  go_wp2_with fail
  refine bodyPost_ret (v := v) (by simp [results, Try.results35, go_sem]) rfl ⟨v, rfl, O7.out, H7.out, K7.out⟩


set_option maxRecDepth 100000 in
set_option maxHeartbeats 1000000 in
theorem hopen_rst_at {w : World} {b : Nat} {s : HS} (h : HostAt w b s) (ok : s.Ok) (g : Seg) (gok : g.Ok) (A1 A2 : Option Addr) (n1 c1 c2 : Nat) (hfl : g.fl = 4) (hdl : g.data.length ≤ 100000) (now : Int)
    (hacc : acceptI g.sq (lenI g) s.next s.free = true) (hq : (g.sq != s.next) = false) :
    Calls Try.prog 35 #[.pointer (some ⟨b, 0, none⟩), segV g (.slice A1 n1 c1) (.slice A2 g.data.length c2), .int .u64 now] w fun e w' => e = .returned (.slice none 0 0) ∧ HostAt w' b { s with st := 12 } ∧ Keeps [b] w w' := by
  have LN : 0 ≤ lenI g ∧ lenI g ≤ 4294967295 := by unfold lenI bI; split <;> split <;> omega
  have hft := ok.free
  have hrm := ok.room
  have hin := ok.inn
  have hrd := ok.read
  have FR := Lib.hid (show s.free = s.room - (s.inn.length - s.read) from rfl)
  unfold HS.free at hft
  have HL := Lib.hid (fun W => length_any W g gok A1 A2 n1 c1 c2)
  have hac : ∀ W, Calls Try.prog 56 #[.int .u32 g.sq, .int .i64 (lenI g), .int .u32 s.next, .int .u32 (s.room - (s.inn.length - s.read))] W fun e w' => e = .returned (.bool true) ∧ Keeps [] W w' := by
    intro W
    have := accept_any W g.sq (lenI g) s.next s.free gok.sq ok.next LN.1 LN.2
    rw [hacc] at this
    exact this
  have HAC := Lib.hid hac
  have OK := Lib.hid ok
  have H := Lib.hid h
  have hlt := h.lt
  have b1 : (bits .and .u8 4 1 != 0) = false := by decide
  have b2 : (bits .and .u8 4 4 != 0) = true := by decide
  obtain ⟨ln0, ln1⟩ := LN
  clear h ok gok hacc hac
  unfold segV at *
  rw [hfl] at *
  go_enter Try.func35, Try.ntmps35
  go_upto_region 1 with fail
  refine wp_gn (fun W hW => ?_)
  have hx : W.heap[w.heap.size]? = some (.cells #[.int .u16 g.sp, .int .u16 g.dp, .int .u32 g.sq, .int .u32 g.ak, .int .u8 4, .int .u16 g.wn, .int .u16 g.ug, .slice A1 n1 c1, .slice A2 g.data.length c2] 30 (0, 0)) := by rw [hW]; exact (MapKept.heap_alloc w _).1
  have k0 : Keeps [] w W := by rw [hW]; exact Keeps.alloc _ _ _
  have H0 := Lib.hid (H.out.keep0 k0)
  have K0 := Lib.hid (k0.mono (T := [b]) (by simp))
  have HX := Lib.hid hx
  clear hW k0
  have hxc0 := cell_of_block hx 0
  have hxc1 := cell_of_block hx 1
  have hxc2 := cell_of_block hx 2
  have hxc3 := cell_of_block hx 3
  have hxc4 := cell_of_block hx 4
  have hxc5 := cell_of_block hx 5
  have hxc6 := cell_of_block hx 6
  have hxc7 := cell_of_block hx 7
  have hxc8 := cell_of_block hx 8
  simp at hxc0 hxc1 hxc2 hxc3 hxc4 hxc5 hxc6 hxc7 hxc8
  clear hx
  have c5 := H0.out.c5
  have c15 := H0.out.c15
  have c16 := H0.out.c16
  have c17 := H0.out.c17
  have s1 : IntKind.i64.wrap ((s.inn.length : Int) - s.read) = s.inn.length - s.read := by rw [IntKind.wrap_i64]; omega
  have s2 : IntKind.i64.wrap (s.room - ((s.inn.length : Int) - s.read)) = s.room - ((s.inn.length : Int) - s.read) := by rw [IntKind.wrap_i64]; omega
  have s3 : IntKind.u32.wrap (s.room - ((s.inn.length : Int) - s.read)) = s.room - ((s.inn.length : Int) - s.read) := by rw [IntKind.wrap_u32]; omega
  go_wp2_with fail
  go_quiet (fail)
  clear s1 s2 s3
  go_wp2_with fail
  have hl1 : IntKind.i64.wrap (lenI g) = lenI g := by rw [IntKind.wrap_i64]; omega
  go_region_held3 (fun w' => w'.cell? ⟨w.heap.size, 0, none⟩ = some (.int .u16 g.sp) ∧ w'.cell? ⟨w.heap.size, 1, none⟩ = some (.int .u16 g.dp) ∧ w'.cell? ⟨w.heap.size, 2, none⟩ = some (.int .u32 g.sq) ∧ w'.cell? ⟨w.heap.size, 3, none⟩ = some (.int .u32 g.ak) ∧ w'.cell? ⟨w.heap.size, 4, none⟩ = some (.int .u8 4) ∧ w'.cell? ⟨w.heap.size, 5, none⟩ = some (.int .u16 g.wn) ∧ w'.cell? ⟨w.heap.size, 6, none⟩ = some (.int .u16 g.ug) ∧ w'.cell? ⟨w.heap.size, 7, none⟩ = some (.slice A1 n1 c1) ∧ w'.cell? ⟨w.heap.size, 8, none⟩ = some (.slice A2 g.data.length c2) ∧ w'.cell? ⟨b, 15, none⟩ = some (.int .u32 s.next)) ((refine (fun kx => ⟨cell_keeps kx hxc0 (by simp), cell_keeps kx hxc1 (by simp), cell_keeps kx hxc2 (by simp), cell_keeps kx hxc3 (by simp), cell_keeps kx hxc4 (by simp), cell_keeps kx hxc5 (by simp), cell_keeps kx hxc6 (by simp), cell_keeps kx hxc7 (by simp), cell_keeps kx hxc8 (by simp), cell_keeps kx c15 (by simp)⟩ : Keeps [] W _ → _) ?_; (repeat (first | with_reducible assumption | with_reducible exact Keeps.refl _ _ | with_reducible apply Keeps.alloc' | with_reducible apply Keeps.drew' | with_reducible apply Keeps.drewN' | (with_reducible apply Keeps.setCell'; rotate_left; · simp))))) (first | (go_at_call 57; with_reducible refine (HL.out _).mono ?_; rintro e w5 ⟨rfl, k5⟩; have kw5 : Keeps [] W w5 := Keeps.trans (by (repeat (first | with_reducible assumption | with_reducible exact Keeps.refl _ _ | with_reducible apply Keeps.alloc' | with_reducible apply Keeps.drew' | with_reducible apply Keeps.drewN' | (with_reducible apply Keeps.setCell'; rotate_left; · simp)))) k5; clear k5) | (go_at_call 56; with_reducible refine (HAC.out _).mono ?_; rintro e w6 ⟨rfl, k6⟩; have kw6 : Keeps [] W w6 := Keeps.trans (by (repeat (first | with_reducible assumption | with_reducible exact Keeps.refl _ _ | with_reducible apply Keeps.alloc' | with_reducible apply Keeps.drew' | with_reducible apply Keeps.drewN' | (with_reducible apply Keeps.setCell'; rotate_left; · simp)))) k6; clear k6))
  clear hl1 hxc0 hxc1 hxc2 hxc3 hxc4 hxc5 hxc6 hxc7 hxc8 c5 c15 c16 c17 kw5
  have hx6 := (kw6.block _ (Array.getElem?_eq_some_iff.1 HX.out).1 (by simp)).trans HX.out
  have H6 := Lib.hid (H0.out.keep0 kw6)
  have K6 := Lib.hid (K0.out.trans (kw6.mono (by simp)))
  clear kw6
  have hx6c0 := cell_of_block hx6 0
  have hx6c1 := cell_of_block hx6 1
  have hx6c2 := cell_of_block hx6 2
  have hx6c3 := cell_of_block hx6 3
  have hx6c4 := cell_of_block hx6 4
  have hx6c5 := cell_of_block hx6 5
  have hx6c6 := cell_of_block hx6 6
  have hx6c7 := cell_of_block hx6 7
  have hx6c8 := cell_of_block hx6 8
  simp at hx6c0 hx6c1 hx6c2 hx6c3 hx6c4 hx6c5 hx6c6 hx6c7 hx6c8
  clear hx6
  have c15 := H6.out.c15
  have f8 := H6.out.fz 8
  go_wp2_with fail
  clear f8
  go_quiet (fail)
  go_upto_region 12 with fail
  refine wp_gn (fun W7 hW7 => ?_)
  have k7 : Keeps [] w6 W7 := by rw [hW7]; (repeat (first | with_reducible assumption | with_reducible exact Keeps.refl _ _ | with_reducible apply Keeps.alloc' | with_reducible apply Keeps.drew' | with_reducible apply Keeps.drewN' | (with_reducible apply Keeps.setCell'; rotate_left; · simp)))
  have H7 := Lib.hid (H6.out.keep0 k7)
  have K7 := Lib.hid (K6.out.trans (k7.mono (by simp)))
  have f8 := H7.out.fz 8
  have c8 := H7.out.c8
  clear hW7 k7 hx6c0 hx6c1 hx6c2 hx6c3 hx6c4 hx6c5 hx6c6 hx6c7 hx6c8 c15
  go_wp2_with fail
  refine bodyPost_ret (v := .slice none 0 0) (by simp [results, Try.results35, go_sem]) rfl ⟨rfl, H7.out.s8 12, K7.out.trans (Keeps.setCell _ ⟨b, 8, none⟩ _)⟩

end Go.Proofs.Ytgaidloicmkdaaa
