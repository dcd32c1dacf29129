/-
  The walks of package host: slices.Concat's result is a row of its own; an Ack with or without data, where what was got lies. Condition: a host's numbers are in the ranges of their kinds; nothing is closed; windows are not scaled.
-/
import Derived.Test.YtgaidloicmkdaaaHsD
namespace Go.Proofs.Ytgaidloicmkdaaa
open Go.RowKit
set_option linter.unusedVariables false
set_option linter.unusedSimpArgs false

set_option maxRecDepth 100000 in
set_option maxHeartbeats 1000000 in
theorem concat_own (w : World) (g : Nat) (A1 A2 : Option Addr) (n1 c1 n2 c2 : Nat) (l1 l2 : List UInt8)
    (q1 : w.cell? ⟨g, 0, none⟩ = some (.slice A1 n1 c1)) (q2 : w.cell? ⟨g, 1, none⟩ = some (.slice A2 n2 c2))
    (h1 : BytesV w (.slice A1 n1 c1) l1) (h2 : BytesV w (.slice A2 n2 c2) l2) (b1 : n1 ≤ 274877906944) (b2 : n2 ≤ 274877906944) :
    Calls Try.prog 42 #[.slice (some ⟨g, 0, none⟩) 2 2] w fun e w' => ∃ v, e = .returned v ∧ w'.ownsRow w.heap.size 5 1 v (n1 + n2) ((l1 ++ l2).map u8V) ∧ Keeps [] w w' := by
  obtain ⟨e1, _, _⟩ := h1.form
  obtain ⟨e2, _, _⟩ := h2.form
  have H1 := Lib.hid h1
  have H2 := Lib.hid h2
  have E1 := Lib.hid e1
  have E2 := Lib.hid e2
  clear h1 h2 e1 e2
  go_enter Try.func42, Try.ntmps42
  go_wp2
  go_loop [3, 11] (fun s i => (s = .int .i64 0 ∧ i = .int .i64 0) ∨ (s = .int .i64 n1 ∧ i = .int .i64 1) ∨ (s = .int .i64 (n1 + n2) ∧ i = .int .i64 2)) (fun _ i => 2 - (intOf i).toNat)
  case atStart => exact Or.inl ⟨rfl, rfl⟩
  case round =>
    rcases hrel with ⟨rfl, rfl⟩ | ⟨rfl, rfl⟩ | ⟨rfl, rfl⟩
    · go_wp2
      go_round
      case rel => exact Or.inr (Or.inl ⟨rfl, rfl⟩)
      case measure => simp [intOf]
    · go_wp2
      go_round
      case rel => exact Or.inr (Or.inr ⟨rfl, rfl⟩)
      case measure => simp [intOf]
    · go_wp2_with fail
      rw [show ((n1 : Int) + (n2 : Int)) = ((n1 + n2 : Nat) : Int) by omega]
      refine (grow_any w (n1 + n2) (by omega)).mono ?_
      rintro e wg ⟨vg, rfl, og, kg⟩
      go_wp2_with fail
      go_loopw [6, 27] (fun v i wr => ∃ l m, wr.ownsRow w.heap.size 5 1 v m (l.map u8V) ∧ Keeps [] w wr ∧ ((i = .int .i64 0 ∧ l = [] ∧ m = 0) ∨ (i = .int .i64 1 ∧ l = l1 ∧ m = n1) ∨ (i = .int .i64 2 ∧ l = l1 ++ l2 ∧ m = n1 + n2))) (fun _ i _ => 2 - (intOf i).toNat)
      case atStart => exact ⟨[], 0, og, kg, Or.inl ⟨rfl, rfl, rfl⟩⟩
      case round =>
        obtain ⟨l, m, ow, kw, hcase⟩ := hrel
        have d1 := cell_keeps kw q1 (by simp)
        have d2 := cell_keeps kw q2 (by simp)
        have hlt := fun j hj => (ow.lt j hj).1
        have HL := Lib.hid hlt
        have OW := Lib.hid ow
        have KW := Lib.hid kw
        clear q1 q2 og kg hlt ow kw
        rcases hcase with ⟨rfl, rfl, rfl⟩ | ⟨rfl, rfl, rfl⟩ | ⟨rfl, rfl, rfl⟩
        · go_wp2_with (at_builtin; refine wpList_append_bytes rfl _ _ w.heap.size 28 5 rfl Try.underlying28 Try.infoU8 _ 0 [] rfl OW.out _ l1 rfl (H1.out.keep0 KW.out) (by have := E1.out; omega) KW.out.size ?_; intro v1 w1 hown hg hat _)
          go_roundw
          case rel => exact ⟨l1, n1, by rw [E1.out]; simpa using hown, KW.out.own hg HL.out, Or.inr (Or.inl ⟨rfl, rfl, rfl⟩)⟩
          case measure => simp [intOf]
        · go_wp2_with (at_builtin; refine wpList_append_bytes rfl _ _ w.heap.size 28 5 rfl Try.underlying28 Try.infoU8 _ m l rfl OW.out _ l2 rfl (H2.out.keep0 KW.out) (by have := E2.out; omega) KW.out.size ?_; intro v1 w1 hown hg hat _)
          go_roundw
          case rel => exact ⟨l ++ l2, m + n2, by rw [E2.out]; exact hown, KW.out.own hg HL.out, Or.inr (Or.inr ⟨rfl, rfl, rfl⟩)⟩
          case measure => simp [intOf]
        · go_wp2_with fail
          go_ret
          exact ⟨_, rfl, OW.out, KW.out⟩
attribute [local go_sem ↓] Go.wp_at_zero Go.wp_at_succ
set_option maxRecDepth 100000 in
set_option maxHeartbeats 1000000 in
theorem hopen_ackF {w : World} {b : Nat} {s : HS} (h : HostAt w b s) (ok : s.Ok) (hcl : s.closed = false) (hsc : s.scale = 0) (hst : s.st = 4) (g : Seg) (gok : g.Ok) (A1 A2 : Option Addr) (n1 c1 c2 : Nat) (hg : SegAt w g (.slice A1 n1 c1) (.slice A2 g.data.length c2)) (hfl : g.fl = 16) (now : Int) (n0 : 0 ≤ now) (nn : now ≤ 4398046511104)
    (hacc : acceptI g.sq (lenI g) s.next s.free = true) (hnx : lessI s.nxt g.ak = false) (hdl : g.data.length ≤ 100000) (Post : Value → World → Prop)
    (hok3 : ∀ A c, (HS.settle (s.after g now A c) now).Ok)
    (hfin : ∀ W A c, HostAt W b (s.after g now A c) → (∀ a, A = some a → w.heap.size ≤ a.block ∧ a.block < W.heap.size) → Calls Try.prog 43 #[.pointer (some ⟨b, 0, none⟩), .int .u64 now] W fun e w' => ∃ ad n cp, e = .returned (.slice ad n cp) ∧ Keeps [b] W w' ∧
      ((n = 0 ∧ g.data = [] ∧ Post (.slice ad n cp) w') ∨ (n = 0 ∧ 0 < g.data.length ∧ HostAt w' b (HS.settle (s.after g now A c) now) ∧ (∀ v w'', OneSeg w'' v (HS.settle (s.after g now A c) now).ack (.slice none 0 0) (.slice none 0 0) → HostAt w'' b (HS.settle (s.after g now A c) now) → Post v w'')) ∨ (0 < n ∧ Post (.slice ad n cp) w'))) :
    Calls Try.prog 35 #[.pointer (some ⟨b, 0, none⟩), segV g (.slice A1 n1 c1) (.slice A2 g.data.length c2), .int .u64 now] w fun e w' => ∃ v, e = .returned v ∧ Post v w' ∧ Keeps [b] w w' := by
  have LN : 0 ≤ lenI g ∧ lenI g ≤ 4294967295 := by unfold lenI bI; split <;> split <;> omega
  have hft := ok.free
  have hrm := ok.room
  have hin := ok.inn
  have hrd := ok.read
  have FR := Lib.hid (show s.free = s.room - (s.inn.length - s.read) from rfl)
  unfold HS.free at hft
  have HL := Lib.hid (fun W => length_any W g gok A1 A2 n1 c1 c2)
  have hac : ∀ W, Calls Try.prog 56 #[.int .u32 g.sq, .int .i64 (lenI g), .int .u32 s.next, .int .u32 (s.room - (s.inn.length - s.read))] W fun e w' => e = .returned (.bool true) ∧ Keeps [] W w' := by
    intro W
    have := accept_any W g.sq (lenI g) s.next s.free gok.sq ok.next LN.1 LN.2
    rw [hacc] at this
    exact this
  have HAC := Lib.hid hac
  have hle : ∀ W, Calls Try.prog 59 #[.int .u32 s.nxt, .int .u32 g.ak] W fun e w' => e = .returned (.bool false) ∧ W = w' := by
    intro W
    have := less_any W s.nxt g.ak ok.nxt gok.ak
    rw [hnx] at this
    exact this
  have HLE := Lib.hid hle
  have HSE := Lib.hid (fun W (hW : HostAt W b s) => hsees_open hW ok hcl hsc g gok A1 A2 n1 c1 g.data.length c2 now n0 nn false)
  have same := Lib.hid (sees_same s g now false)
  have hcut : ∀ W, BytesV W (.slice A2 g.data.length c2) g.data → Calls Try.prog 61 #[.int .u32 g.sq, .slice A2 g.data.length c2, .int .u32 s.next, .int .u32 (s.room - (s.inn.length - s.read))] W fun e w' => ∃ v, e = .returned (.tuple #[.int .u32 (cutI g.sq g.data s.next s.free).1, v]) ∧ BytesV w' v (cutI g.sq g.data s.next s.free).2 ∧ Keeps [] W w' :=
    fun W hW => cut_any W g.sq A2 g.data.length c2 g.data s.next s.free hW gok.sq ok.next (by rw [FR.out]; omega) (by rw [FR.out]; omega) (by omega)
  have HCUT := Lib.hid hcut
  have hpl : (cutI g.sq g.data s.next s.free).2.length ≤ 100000 := by
    unfold cutI
    split
    · simp
    · simp; omega
  have HPL := Lib.hid hpl
  have INL := Lib.hid ok.inn
  clear hcut hpl
  have HST := Lib.hid hst
  have HOK3 := Lib.hid hok3
  have HFIN := Lib.hid hfin
  have H := Lib.hid h
  have G := Lib.hid hg
  have GSQ := Lib.hid gok.sq
  have NX := Lib.hid ok.next
  have hlt := h.lt
  have b1 : (bits .and .u8 16 1 != 0) = false := by decide
  have b2 : (bits .and .u8 16 4 != 0) = false := by decide
  have b3 : (bits .and .u8 16 2 != 0) = false := by decide
  have b4 : (bits .and .u8 16 16 == 0) = false := by decide
  obtain ⟨ln0, ln1⟩ := LN
  clear h ok gok hg hcl hsc hst hacc hnx hac hle hok3 hfin
  unfold segV at *
  rw [hfl] at *
  go_enter Try.func35, Try.ntmps35
  go_upto_region 1 with fail
  refine wp_gn (fun W hW => ?_)
  have hx : W.heap[w.heap.size]? = some (.cells #[.int .u16 g.sp, .int .u16 g.dp, .int .u32 g.sq, .int .u32 g.ak, .int .u8 16, .int .u16 g.wn, .int .u16 g.ug, .slice A1 n1 c1, .slice A2 g.data.length c2] 30 (0, 0)) := by rw [hW]; exact (MapKept.heap_alloc w _).1
  have k0 : Keeps [] w W := by rw [hW]; exact Keeps.alloc _ _ _
  have H0 := Lib.hid (H.out.keep0 k0)
  have K0 := Lib.hid (k0.mono (T := [b]) (by simp))
  have G0 := Lib.hid (G.out.keep0 k0)
  have HX := Lib.hid hx
  clear hW k0
  have hxc0 := cell_of_block hx 0
  have hxc1 := cell_of_block hx 1
  have hxc2 := cell_of_block hx 2
  have hxc3 := cell_of_block hx 3
  have hxc4 := cell_of_block hx 4
  have hxc5 := cell_of_block hx 5
  have hxc6 := cell_of_block hx 6
  have hxc7 := cell_of_block hx 7
  have hxc8 := cell_of_block hx 8
  simp at hxc0 hxc1 hxc2 hxc3 hxc4 hxc5 hxc6 hxc7 hxc8
  clear hx
  have c5 := H0.out.c5
  have c15 := H0.out.c15
  have c16 := H0.out.c16
  have c17 := H0.out.c17
  have s1 : IntKind.i64.wrap ((s.inn.length : Int) - s.read) = s.inn.length - s.read := by rw [IntKind.wrap_i64]; omega
  have s2 : IntKind.i64.wrap (s.room - ((s.inn.length : Int) - s.read)) = s.room - ((s.inn.length : Int) - s.read) := by rw [IntKind.wrap_i64]; omega
  have s3 : IntKind.u32.wrap (s.room - ((s.inn.length : Int) - s.read)) = s.room - ((s.inn.length : Int) - s.read) := by rw [IntKind.wrap_u32]; omega
  go_wp2_with fail
  go_quiet (fail)
  clear s1 s2 s3
  go_wp2_with fail
  have hl1 : IntKind.i64.wrap (lenI g) = lenI g := by rw [IntKind.wrap_i64]; omega
  go_region_held3 (fun w' => w'.cell? ⟨w.heap.size, 0, none⟩ = some (.int .u16 g.sp) ∧ w'.cell? ⟨w.heap.size, 1, none⟩ = some (.int .u16 g.dp) ∧ w'.cell? ⟨w.heap.size, 2, none⟩ = some (.int .u32 g.sq) ∧ w'.cell? ⟨w.heap.size, 3, none⟩ = some (.int .u32 g.ak) ∧ w'.cell? ⟨w.heap.size, 4, none⟩ = some (.int .u8 16) ∧ w'.cell? ⟨w.heap.size, 5, none⟩ = some (.int .u16 g.wn) ∧ w'.cell? ⟨w.heap.size, 6, none⟩ = some (.int .u16 g.ug) ∧ w'.cell? ⟨w.heap.size, 7, none⟩ = some (.slice A1 n1 c1) ∧ w'.cell? ⟨w.heap.size, 8, none⟩ = some (.slice A2 g.data.length c2) ∧ w'.cell? ⟨b, 15, none⟩ = some (.int .u32 s.next)) ((refine (fun kx => ⟨cell_keeps kx hxc0 (by simp), cell_keeps kx hxc1 (by simp), cell_keeps kx hxc2 (by simp), cell_keeps kx hxc3 (by simp), cell_keeps kx hxc4 (by simp), cell_keeps kx hxc5 (by simp), cell_keeps kx hxc6 (by simp), cell_keeps kx hxc7 (by simp), cell_keeps kx hxc8 (by simp), cell_keeps kx c15 (by simp)⟩ : Keeps [] W _ → _) ?_; (repeat (first | with_reducible assumption | with_reducible exact Keeps.refl _ _ | with_reducible apply Keeps.alloc' | with_reducible apply Keeps.drew' | with_reducible apply Keeps.drewN' | (with_reducible apply Keeps.setCell'; rotate_left; · simp))))) (first | (go_at_call 57; with_reducible refine (HL.out _).mono ?_; rintro e w5 ⟨rfl, k5⟩; have kw5 : Keeps [] W w5 := Keeps.trans (by (repeat (first | with_reducible assumption | with_reducible exact Keeps.refl _ _ | with_reducible apply Keeps.alloc' | with_reducible apply Keeps.drew' | with_reducible apply Keeps.drewN' | (with_reducible apply Keeps.setCell'; rotate_left; · simp)))) k5; clear k5) | (go_at_call 56; with_reducible refine (HAC.out _).mono ?_; rintro e w6 ⟨rfl, k6⟩; have kw6 : Keeps [] W w6 := Keeps.trans (by (repeat (first | with_reducible assumption | with_reducible exact Keeps.refl _ _ | with_reducible apply Keeps.alloc' | with_reducible apply Keeps.drew' | with_reducible apply Keeps.drewN' | (with_reducible apply Keeps.setCell'; rotate_left; · simp)))) k6; clear k6))
  clear hl1 hxc0 hxc1 hxc2 hxc3 hxc4 hxc5 hxc6 hxc7 hxc8 c5 c15 c16 c17 kw5
  have hx6 := (kw6.block _ (Array.getElem?_eq_some_iff.1 HX.out).1 (by simp)).trans HX.out
  have H6 := Lib.hid (H0.out.keep0 kw6)
  have G6 := Lib.hid (G0.out.keep0 kw6)
  have K6 := Lib.hid (K0.out.trans (kw6.mono (by simp)))
  have HX6 := Lib.hid hx6
  clear kw6
  have hx6c0 := cell_of_block hx6 0
  have hx6c1 := cell_of_block hx6 1
  have hx6c2 := cell_of_block hx6 2
  have hx6c3 := cell_of_block hx6 3
  have hx6c4 := cell_of_block hx6 4
  have hx6c5 := cell_of_block hx6 5
  have hx6c6 := cell_of_block hx6 6
  have hx6c7 := cell_of_block hx6 7
  have hx6c8 := cell_of_block hx6 8
  simp at hx6c0 hx6c1 hx6c2 hx6c3 hx6c4 hx6c5 hx6c6 hx6c7 hx6c8
  clear hx6
  have c8 := H6.out.c8
  rw [HST.out] at c8
  have c11 := H6.out.c11
  go_wp2_with fail
  go_quiet (fail)
  go_upto_region 23 with fail
  refine wp_gn (fun W7 hW7 => ?_)
  have k7 : Keeps [] w6 W7 := by rw [hW7]; (repeat (first | with_reducible assumption | with_reducible exact Keeps.refl _ _ | with_reducible apply Keeps.alloc' | with_reducible apply Keeps.drew' | with_reducible apply Keeps.drewN' | (with_reducible apply Keeps.setCell'; rotate_left; · simp)))
  have hx7 := (k7.block _ (Array.getElem?_eq_some_iff.1 HX6.out).1 (by simp)).trans HX6.out
  have H7 := Lib.hid (H6.out.keep0 k7)
  have G7 := Lib.hid (G6.out.keep0 k7)
  have K7 := Lib.hid (K6.out.trans (k7.mono (by simp)))
  have HX7 := Lib.hid hx7
  clear hW7 k7 hx6c0 hx6c1 hx6c2 hx6c3 hx6c4 hx6c5 hx6c6 hx6c7 hx6c8 c8 c11
  have hx7c0 := cell_of_block hx7 0
  have hx7c1 := cell_of_block hx7 1
  have hx7c2 := cell_of_block hx7 2
  have hx7c3 := cell_of_block hx7 3
  have hx7c4 := cell_of_block hx7 4
  have hx7c5 := cell_of_block hx7 5
  have hx7c6 := cell_of_block hx7 6
  have hx7c7 := cell_of_block hx7 7
  have hx7c8 := cell_of_block hx7 8
  simp at hx7c0 hx7c1 hx7c2 hx7c3 hx7c4 hx7c5 hx7c6 hx7c7 hx7c8
  clear hx7
  have c11 := H7.out.c11
  go_quiet ((go_at_call 59; exact quiet_same (HLE.out _)))
  go_wp2_with fail
  refine (HSE.out _ (H7.out.keep0 (Keeps.drewN _ _ _))).mono ?_
  rintro e w8 ⟨rfl, h8, k8⟩
  have hx8 := ((Keeps.drewN [b] W7 _).trans k8).block _ (Array.getElem?_eq_some_iff.1 HX7.out).1 (by simp; omega) |>.trans HX7.out
  have G8 := Lib.hid ((G7.out.keep0 (Keeps.drewN _ _ _)).keep k8 (H7.out.keep0 (Keeps.drewN _ _ _)).no)
  have K8 := Lib.hid (K7.out.trans ((Keeps.drewN [b] W7 _).trans k8))
  obtain ⟨a1, a2, a3, a4, a5, a6, a7⟩ := same.out
  have AF := Lib.hid (show s.after g now = fun A c => (s.sees g now false).took g s.free A c from rfl)
  have A4 := Lib.hid a4
  have A5 := Lib.hid a5
  have ST1 := Lib.hid (a1.trans HST.out)
  clear a1 a2 a3 a4 a5 a6 a7 same k8 c11 hx7c0 hx7c1 hx7c2 hx7c3 hx7c4 hx7c5 hx7c6 hx7c7 hx7c8 HSE
  generalize s.sees g now false = s1 at *
  have H8 := Lib.hid h8
  have HX8 := Lib.hid hx8
  clear h8
  go_wp2_with fail
  refine (hgone_no H8.out (by have := ST1.out; omega)).mono ?_
  rintro e w9 ⟨rfl, rfl⟩
  have c8 := H8.out.c8
  rw [ST1.out] at c8
  have c15 := H8.out.c15
  have f15 := H8.out.fz 15
  have c16 := H8.out.c16
  have f16 := H8.out.fz 16
  rw [A5.out] at c15
  have hx8c0 := cell_of_block hx8 0
  have hx8c1 := cell_of_block hx8 1
  have hx8c2 := cell_of_block hx8 2
  have hx8c3 := cell_of_block hx8 3
  have hx8c4 := cell_of_block hx8 4
  have hx8c5 := cell_of_block hx8 5
  have hx8c6 := cell_of_block hx8 6
  have hx8c7 := cell_of_block hx8 7
  have hx8c8 := cell_of_block hx8 8
  simp at hx8c0 hx8c1 hx8c2 hx8c3 hx8c4 hx8c5 hx8c6 hx8c7 hx8c8
  clear hx8
  go_upto_region 29 with fail
  have AF2 := Lib.hid (show ∀ A c, HS.took s1 g s.free A c = if (cutI g.sq g.data s1.next s.free).1 = s1.next then { s1 with innA := A, inn := s1.inn ++ (cutI g.sq g.data s1.next s.free).2, innC := c, next := (s1.next + (cutI g.sq g.data s1.next s.free).2.length) % 4294967296 } else s1 from fun A c => rfl)
  rw [A5.out] at AF2
  generalize cutI g.sq g.data s.next s.free = cr at *
  obtain ⟨at', part⟩ := cr
  simp only at AF2 HPL
  have gb : BytesV w8 (.slice A2 g.data.length c2) g.data := And.right G8.out
  have GB := Lib.hid gb
  clear gb
  go_region_held3 (fun w' => w'.cell? ⟨w.heap.size, 2, none⟩ = some (.int .u32 g.sq) ∧ w'.cell? ⟨w.heap.size, 8, none⟩ = some (.slice A2 g.data.length c2) ∧ w'.cell? ⟨b, 15, none⟩ = some (.int .u32 s.next)) ((refine (fun kx => ⟨cell_keeps kx hx8c2 (by simp), cell_keeps kx hx8c8 (by simp), cell_keeps kx c15 (by simp)⟩ : Keeps [] w8 _ → _) ?_; (repeat (first | with_reducible assumption | with_reducible exact Keeps.refl _ _ | with_reducible apply Keeps.alloc' | with_reducible apply Keeps.drew' | with_reducible apply Keeps.drewN' | (with_reducible apply Keeps.setCell'; rotate_left; · simp))))) (first | (go_at_call 61; with_reducible refine (HCUT.out _ (GB.out.keep0 (by (repeat (first | with_reducible assumption | with_reducible exact Keeps.refl _ _ | with_reducible apply Keeps.alloc' | with_reducible apply Keeps.drew' | with_reducible apply Keeps.drewN' | (with_reducible apply Keeps.setCell'; rotate_left; · simp)))))).mono ?_; rintro e w10 ⟨v, rfl, b10, k10⟩; have kw10 : Keeps [] w8 w10 := Keeps.trans (by (repeat (first | with_reducible assumption | with_reducible exact Keeps.refl _ _ | with_reducible apply Keeps.alloc' | with_reducible apply Keeps.drew' | with_reducible apply Keeps.drewN' | (with_reducible apply Keeps.setCell'; rotate_left; · simp)))) k10; obtain ⟨Ap, cp, rfl⟩ := b10.slice; clear k10))
  have hx10 := (kw10.block _ (Array.getElem?_eq_some_iff.1 HX8.out).1 (by simp)).trans HX8.out
  have H10 := Lib.hid (H8.out.keep0 kw10)
  have K10 := Lib.hid (K8.out.trans (kw10.mono (by simp)))
  have B10 := Lib.hid b10
  have HX10 := Lib.hid hx10
  clear kw10 b10 c8 c15 f15 c16 f16 hx8c0 hx8c1 hx8c2 hx8c3 hx8c4 hx8c5 hx8c6 hx8c7 hx8c8
  have c15 := H10.out.c15
  rw [A5.out] at c15
  by_cases hE : at' = s.next
  · have hb : (at' == s.next) = true := by simpa using hE
    have c16 := H10.out.c16
    have AF3 := Lib.hid (show ∀ A c, s.after g now A c = { s1 with innA := A, inn := s1.inn ++ part, innC := c, next := (s.next + part.length) % 4294967296 } from fun A c => by
      have h1 := AF.out
      have h2 := AF2.out A c
      rw [if_pos hE] at h2
      exact (congrFun (congrFun h1 A) c).trans h2)
    clear hE
    have hq : Keeps [] w10 (w10.alloc (.cells #[.slice s1.innA s1.inn.length s1.innC, .slice Ap part.length cp] 28)) := Keeps.alloc _ _ _
    go_wp2_with fail
    refine (concat_own _ w10.heap.size s1.innA Ap s1.inn.length s1.innC part.length cp s1.inn part (by simp) (by simp) (H10.out.inn.keep0 (Keeps.alloc _ _ _)) (B10.out.keep0 (Keeps.alloc _ _ _)) (by rw [A4.out]; have := INL.out; omega) (by have := HPL.out; omega)).mono ?_
    rintro e w11 ⟨v, rfl, o11, k11⟩
    obtain ⟨Ai, ci, rfl⟩ := own_slice o11
    have b11 : BytesV w11 (.slice Ai (s1.inn ++ part).length ci) (s1.inn ++ part) := by rw [List.length_append]; exact BytesV.of_own o11
    have FR11 := Lib.hid (show ∀ a, Ai = some a → w.heap.size ≤ a.block ∧ a.block < w11.heap.size from fun a ha => by
      have hl := o11.lt a.block (by rw [ha]; rfl)
      have h10 := K10.out.size
      have hz := Keeps.size (Keeps.alloc [] w10 (.cells #[.slice s1.innA s1.inn.length s1.innC, .slice Ap part.length cp] 28))
      omega)
    have Z11 := Lib.hid o11
    clear o11
    have k10' := (Keeps.alloc [] w10 (.cells #[.slice s1.innA s1.inn.length s1.innC, .slice Ap part.length cp] 28)).trans k11
    have H11 := Lib.hid (H10.out.keep0 k10')
    have B11 := Lib.hid b11
    have KA := Lib.hid k10'
    have f16 := H11.out.fz 16
    have c16' := H11.out.c16
    clear k10' k11 b11 c15 c16 hq
    go_upto_region 32 with fail
    refine wp_gn (fun W12 hW12 => ?_)
    have h12 : HostAt W12 b { s1 with innA := Ai, inn := s1.inn ++ part, innC := ci } := by rw [hW12]; have h' := H11.out.s16 Ai _ ci B11.out; rw [List.length_append] at h'; exact h'
    have Z12 := Lib.hid (show w11.heap.size ≤ W12.heap.size by rw [hW12]; exact (Keeps.setCell w11 ⟨b, 16, none⟩ _).size)
    have k12 : Keeps [b] w10 W12 := by rw [hW12]; exact (KA.out.mono (by simp)).trans (Keeps.setCell _ ⟨b, 16, none⟩ _)
    have H12 := Lib.hid h12
    have K12 := Lib.hid k12
    clear hW12 h12 k12 f16 c16'
    have c15 := H12.out.c15
    have f15 := H12.out.fz 15
    simp only at c15
    rw [A5.out] at c15
    have NX2 := NX.out
    obtain ⟨x0, x1⟩ := NX2
    have pl := HPL.out
    go_upto_region 33 with fail
    refine wp_gn (fun W13 hW13 => ?_)
    have h13 : HostAt W13 b (s.after g now Ai ci) := by
      rw [hW13, AF3.out]; exact H12.out.s15 _
    have KX : Keeps [b] w10 W13 := by rw [hW13]; exact K12.out.trans (Keeps.setCell _ ⟨b, 15, none⟩ _)
    have ZZ := Lib.hid (show w11.heap.size ≤ W13.heap.size by rw [hW13]; exact Nat.le_trans Z12.out (Keeps.setCell W12 ⟨b, 15, none⟩ _).size)
    have H13 := Lib.hid h13
    clear hW13 h13 c15 f15 x0 x1 pl
    go_quiet (fail)
    go_wp2_with fail
    refine (HFIN.out _ Ai ci (H13.out.keep0 (Keeps.drewN _ _ _)) (fun a ha => ⟨(FR11.out a ha).1, Nat.lt_of_lt_of_le (FR11.out a ha).2 ZZ.out⟩)).mono ?_
    rintro e w14 ⟨ad, nl, cp2, rfl, k14, hpost⟩
    have hx14 := ((KX.trans (Keeps.drewN _ _ _)).trans k14).block _ (Array.getElem?_eq_some_iff.1 HX10.out).1 (by simp; omega) |>.trans HX10.out
    have KZ := Lib.hid (K10.out.trans ((KX.trans (Keeps.drewN _ _ _)).trans k14))
    clear k14
    have hx14c8 := cell_of_block hx14 8
    simp at hx14c8
    have hx14f8 := free_of_block hx14 8
    rcases hpost with ⟨rfl, hd, hp⟩ | ⟨rfl, hd, h14, hp⟩ | ⟨hn, hp⟩
    · have hd0 : ¬ (0 : Int) < g.data.length := by rw [hd]; simp
      have hd1 : g.data.length = 0 := by rw [hd]; rfl
      have HP := Lib.hid hp
      clear hd hp
      go_wp2_with fail
      go_ret
      exact ⟨_, rfl, HP.out, KZ.out⟩
    · have hd0 : (0 : Int) < g.data.length := by omega
      have HP := Lib.hid hp
      have H14 := Lib.hid h14
      clear hp h14
      go_wp2_with fail
      refine (hacks_any H14.out (HOK3.out _ _)).mono ?_
      rintro e w15 ⟨v15, rfl, o15, k15⟩
      have O15 := Lib.hid o15
      have K15 := Lib.hid k15
      clear o15 k15
      go_wp2_with fail
      go_ret
      exact ⟨_, rfl, HP.out _ _ O15.out (H14.out.keep0 K15.out), KZ.out.trans (K15.out.mono (by simp))⟩
    · have hn0 : ¬ nl = 0 := by omega
      have HP := Lib.hid hp
      clear hp hn
      go_wp2_with fail
      go_ret
      exact ⟨_, rfl, HP.out, KZ.out⟩
  · have hb : (at' == s.next) = false := by simpa using hE
    have AF3 := Lib.hid (show ∀ A c, s.after g now A c = s1 from fun A c => by
      have h1 := AF.out
      have h2 := AF2.out A c
      rw [if_neg hE] at h2
      exact (congrFun (congrFun h1 A) c).trans h2)
    clear hE
    go_upto_region 33 with fail
    refine wp_gn (fun W13 hW13 => ?_)
    have h13 : HostAt W13 b (s.after g now none 0) := by
      rw [hW13, AF3.out]; exact H10.out
    have KX : Keeps [b] w10 W13 := by rw [hW13]; exact Keeps.refl _ _
    have H13 := Lib.hid h13
    clear hW13 h13 c15
    go_quiet (fail)
    go_wp2_with fail
    refine (HFIN.out _ none 0 (H13.out.keep0 (Keeps.drewN _ _ _)) (fun a ha => by cases ha)).mono ?_
    rintro e w14 ⟨ad, nl, cp2, rfl, k14, hpost⟩
    have hx14 := ((KX.trans (Keeps.drewN _ _ _)).trans k14).block _ (Array.getElem?_eq_some_iff.1 HX10.out).1 (by simp; omega) |>.trans HX10.out
    have KZ := Lib.hid (K10.out.trans ((KX.trans (Keeps.drewN _ _ _)).trans k14))
    clear k14
    have hx14c8 := cell_of_block hx14 8
    simp at hx14c8
    have hx14f8 := free_of_block hx14 8
    rcases hpost with ⟨rfl, hd, hp⟩ | ⟨rfl, hd, h14, hp⟩ | ⟨hn, hp⟩
    · have hd0 : ¬ (0 : Int) < g.data.length := by rw [hd]; simp
      have hd1 : g.data.length = 0 := by rw [hd]; rfl
      have HP := Lib.hid hp
      clear hd hp
      go_wp2_with fail
      go_ret
      exact ⟨_, rfl, HP.out, KZ.out⟩
    · have hd0 : (0 : Int) < g.data.length := by omega
      have HP := Lib.hid hp
      have H14 := Lib.hid h14
      clear hp h14
      go_wp2_with fail
      refine (hacks_any H14.out (HOK3.out _ _)).mono ?_
      rintro e w15 ⟨v15, rfl, o15, k15⟩
      have O15 := Lib.hid o15
      have K15 := Lib.hid k15
      clear o15 k15
      go_wp2_with fail
      go_ret
      exact ⟨_, rfl, HP.out _ _ O15.out (H14.out.keep0 K15.out), KZ.out.trans (K15.out.mono (by simp))⟩
    · have hn0 : ¬ nl = 0 := by omega
      have HP := Lib.hid hp
      clear hp hn
      go_wp2_with fail
      go_ret
      exact ⟨_, rfl, HP.out, KZ.out⟩
set_option maxRecDepth 100000 in
set_option maxHeartbeats 1000000 in
theorem htake_openF {w : World} {b : Nat} {s : HS} (h : HostAt w b s) (h3 : 3 ≤ s.st) (h10 : s.st ≤ 10) (g : Seg) (A1 A2 : Option Addr) (n1 c1 n2 c2 : Nat) (hg : SegAt w g (.slice A1 n1 c1) (.slice A2 n2 c2)) (now : Int) (Post : Value → World → Prop)
    (hin : ∀ W, Keeps [] w W → HostAt W b s → SegAt W g (.slice A1 n1 c1) (.slice A2 n2 c2) → Calls Try.prog 35 #[.pointer (some ⟨b, 0, none⟩), segV g (.slice A1 n1 c1) (.slice A2 n2 c2), .int .u64 now] W fun e w' => ∃ v, e = .returned v ∧ Post v w' ∧ Keeps [b] W w') :
    Calls Try.prog 10 #[.pointer (some ⟨b, 0, none⟩), segV g (.slice A1 n1 c1) (.slice A2 n2 c2), .int .u64 now] w fun e w' => ∃ v, e = .returned (.tuple #[v, .int .i64 0]) ∧ Post v w' ∧ Keeps [b] w w' := by
  have H := Lib.hid h
  have G := Lib.hid hg
  have HIN := Lib.hid hin
  have c8 := h.c8
  have e1 : (s.st == 1) = false := by simp; omega
  have e2 : (s.st == 2) = false := by simp; omega
  have q8 := fun o => keeps_cell0 (o := o) c8
  have HN := Lib.hid (fun W (hW : HostAt W b s) => hnone_no hW (by omega))
  have HG := Lib.hid (fun W (hW : HostAt W b s) => hgone_no hW (by omega))
  clear h hg hin c8
  unfold segV at *
  go_enter Try.func10, Try.ntmps10
  go_wp2_with fail
  refine (HN.out _ (H.out.keep0 (Keeps.alloc _ _ _))).mono ?_
  rintro e w1 ⟨rfl, rfl⟩
  go_wp2_with fail
  refine (HG.out _ (H.out.keep0 (Keeps.alloc _ _ _))).mono ?_
  rintro e w1 ⟨rfl, rfl⟩
  go_wp2_with fail
  refine (HIN.out _ (Keeps.alloc _ _ _) (H.out.keep0 (Keeps.alloc _ _ _)) (G.out.keep0 (Keeps.alloc _ _ _))).mono ?_
  rintro e w1 ⟨v, rfl, hp, k1⟩
  have HP := Lib.hid hp
  have K1 := Lib.hid ((Keeps.alloc [b] w _).trans k1)
  clear hp k1
  go_wp2_with fail
  go_ret2
  exact ⟨v, rfl, HP.out, K1.out⟩

end Go.Proofs.Ytgaidloicmkdaaa
