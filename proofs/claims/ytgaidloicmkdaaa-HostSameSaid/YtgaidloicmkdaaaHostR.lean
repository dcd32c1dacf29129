/-
  The walk of package host's send: one piece. Condition: a host's numbers are in the ranges of their kinds.
-/
import Derived.Test.YtgaidloicmkdaaaHostQ
namespace Go.Proofs.Ytgaidloicmkdaaa
open Go.RowKit
set_option linter.unusedVariables false
set_option linter.unusedSimpArgs false
attribute [local go_sem ↓] Go.wp_at_zero Go.wp_at_succ

theorem own_nine {w : World} {B e sz n g : Nat} {v : Value} {xs : List Value} (h : w.ownsRow B e sz v n xs) (hg : g < B) (v0 v1 v2 v3 v4 v5 v6 v7 v8 : Value) : (((((((((w.setCell ⟨g, 0, none⟩ v0).setCell ⟨g, 1, none⟩ v1).setCell ⟨g, 2, none⟩ v2).setCell ⟨g, 3, none⟩ v3).setCell ⟨g, 4, none⟩ v4).setCell ⟨g, 5, none⟩ v5).setCell ⟨g, 6, none⟩ v6).setCell ⟨g, 7, none⟩ v7).setCell ⟨g, 8, none⟩ v8).ownsRow B e sz v n xs :=
  own_setCell (own_setCell (own_setCell (own_setCell (own_setCell (own_setCell (own_setCell (own_setCell (own_setCell (h) ⟨g, 0, none⟩ v0 hg) ⟨g, 1, none⟩ v1 hg) ⟨g, 2, none⟩ v2 hg) ⟨g, 3, none⟩ v3 hg) ⟨g, 4, none⟩ v4 hg) ⟨g, 5, none⟩ v5 hg) ⟨g, 6, none⟩ v6 hg) ⟨g, 7, none⟩ v7 hg) ⟨g, 8, none⟩ v8 hg

set_option maxRecDepth 100000 in
set_option maxHeartbeats 2000000 in
theorem hsend_one {w : World} {b : Nat} {s : HS} (h : HostAt w b s) (ok : s.Ok) (now : Int) (n0 : 0 ≤ now) (n1 : now ≤ 4398046511104) (h4 : 4 ≤ s.st) (h10 : s.st < 10) (sg : Seg) (n : Int) (m : Nat) (hn : 0 ≤ n ∧ n ≤ 131072) (hops : sg.ops = [])
    (hpc : ∀ W, HostAt W b s → Calls Try.prog 44 #[.pointer (some ⟨b, 0, none⟩), .int .u32 s.nxt, .int .u32 s.win] W fun e w' => ∃ D c, e = .returned (.tuple #[segV sg (.slice none 0 0) (.slice D m c), .int .u32 n, .bool true]) ∧ w'.ownsRow W.heap.size 5 1 (.slice D m c) m (sg.data.map u8V) ∧ Keeps [] W w')
    (ok1 : ({ s with nxt := (s.nxt + n) % 4294967296 } : HS).Ok) (hst : ({ s with nxt := (s.nxt + n) % 4294967296 } : HS).Still) :
    Calls Try.prog 43 #[.pointer (some ⟨b, 0, none⟩), .int .u64 now] w fun e w' => ∃ v D c, e = .returned v ∧ OneSeg w' v sg (.slice none 0 0) (.slice D m c) ∧ HostAt w' b (HS.settle { s with nxt := (s.nxt + n) % 4294967296 } now) ∧ Keeps [b] w w' := by
  have H := Lib.hid h
  have HS0 := Lib.hid (show Calls Try.prog 67 #[.pointer (some ⟨b, 0, none⟩)] w fun e w' => e = .returned (.bool true) ∧ w = w' by
    have := hsends_any h
    rw [decide_eq_true (show 4 ≤ s.st ∧ s.st < 10 from ⟨h4, h10⟩)] at this
    exact this)
  have HW := Lib.hid (fun W (hW : HostAt W b s) => hwindow_any hW ok.una ok.edge)
  have HP := Lib.hid hpc
  have HW1 := Lib.hid (fun W (hW : HostAt W b { s with nxt := (s.nxt + n) % 4294967296 }) => hwindow_any hW ok1.una ok1.edge)
  have wb := s.win_bd
  have HP1 := Lib.hid (fun W (hW : HostAt W b { s with nxt := (s.nxt + n) % 4294967296 }) => hpiece_none hW ok1 ((s.nxt + n) % 4294967296) s.win ok1.nxt ⟨wb.1, by omega⟩ hst)
  have he1 : ∀ W, HostAt W b { s with nxt := (s.nxt + n) % 4294967296 } → Calls Try.prog 47 #[.pointer (some ⟨b, 0, none⟩)] W fun e w' => e = .returned (.int .u32 s.fin) ∧ ∃ n, w' = W.drewN n := by
    intro W hW
    have h' := hend_any hW ok1.iss (Nat.le_trans ok1.out (by omega))
    exact h'
  have HE1 := Lib.hid he1
  clear he1
  have r0 := ok1.rto
  have HB1 := Lib.hid (fun W (hW : HostAt W b { s with nxt := (s.nxt + n) % 4294967296 }) => hbegin_any hW now (by omega) r0.2 n0 n1)
  have F1 := Lib.hid (show HS.settle { s with nxt := (s.nxt + n) % 4294967296 } now = if s.una = s.fin then { s with nxt := (s.nxt + n) % 4294967296, set := false } else if s.set then { s with nxt := (s.nxt + n) % 4294967296 } else HS.begin { s with nxt := (s.nxt + n) % 4294967296 } now from rfl)
  obtain ⟨q0, q1⟩ := ok.nxt
  obtain ⟨m0, m1⟩ := hn
  clear ok hpc h4 h10 ok1 hst r0 wb
  go_enter Try.func43, Try.ntmps43
  go_wp2_with fail
  refine HS0.out.mono ?_
  rintro e w1 ⟨rfl, rfl⟩
  go_wp2_with fail
  go_loopg [5] 1 (fun g v wr => (g = 1 ∧ v = .slice none 0 0 ∧ HostAt wr b s ∧ Keeps [b] w wr) ∨ (g = 0 ∧ ∃ D c, OneSeg wr v sg (.slice none 0 0) (.slice D m c) ∧ HostAt wr b { s with nxt := (s.nxt + n) % 4294967296 } ∧ Keeps [b] w wr))
  case atStart => exact Or.inl ⟨rfl, rfl, H.out, Keeps.refl _ _⟩
  case round =>
    clear h
    rcases hrel with ⟨rfl, rfl, h0, kw0⟩ | ⟨rfl, D, c, hone, h0, kw0⟩
    · have H0 := Lib.hid h0
      have c11 := h0.c11
      clear h0
      go_upto_region 4 with fail
      go_cut [6, 7, 8] (fun p6 p7 p8 wx => ∃ x D c, p6 = .pointer (some ⟨x, 0, none⟩) ∧ p7 = .int .u32 n ∧ p8 = .bool true ∧ Keeps [] wr wx ∧ wx.heap[x]? = some (.cells (segC sg (.slice none 0 0) (.slice D m c)).toArray 30 (0, 0)) ∧ BytesV wx (.slice D m c) sg.data ∧ wr.heap.size ≤ x)
      case first =>
        have p11 := keeps_cell0 (o := .cells #[.int .u16 0, .int .u16 0, .int .u32 0, .int .u32 0, .int .u8 0, .int .u16 0, .int .u16 0, .slice none 0 0, .slice none 0 0] 30) c11
        have q11 : wr.drew.cell? ⟨b, 11, none⟩ = some (.int .u32 s.nxt) := c11
        go_region_held3 (fun w' => w'.cell? ⟨b, 11, none⟩ = some (.int .u32 s.nxt)) (first | with_reducible assumption | exact cell_keeps (S := []) (w := wr) (by (repeat (first | with_reducible assumption | with_reducible exact Keeps.refl _ _ | with_reducible apply Keeps.alloc' | with_reducible apply Keeps.drew' | with_reducible apply Keeps.drewN' | (with_reducible apply Keeps.setCell'; rotate_left; · simp)))) c11 (by simp)) (first | (go_at_call 45; refine (HW.out _ (H0.out.keep0 (by (repeat (first | with_reducible exact Keeps.refl _ _ | with_reducible apply Keeps.alloc' | with_reducible apply Keeps.drew' | with_reducible apply Keeps.drewN' | (with_reducible apply Keeps.setCell'; rotate_left; · simp)))))).mono ?_; rintro e w2 ⟨rfl, n2, rfl⟩) | (go_at_call 44; refine (HP.out _ (H0.out.keep0 (by (repeat (first | with_reducible exact Keeps.refl _ _ | with_reducible apply Keeps.alloc' | with_reducible apply Keeps.drew' | with_reducible apply Keeps.drewN' | (with_reducible apply Keeps.setCell'; rotate_left; · simp)))))).mono ?_; rintro e w3 ⟨D, c, rfl, o3, k3⟩; have kw3 : Keeps [] wr w3 := Keeps.trans (by (repeat (first | with_reducible exact Keeps.refl _ _ | with_reducible apply Keeps.alloc' | with_reducible apply Keeps.drew' | with_reducible apply Keeps.drewN' | (with_reducible apply Keeps.setCell'; rotate_left; · simp)))) k3; unfold segV; have O3 := Lib.hid o3; clear o3; try (have hs5 := (k3.block wr.heap.size (by simp) (by simp)).trans (MapKept.heap_alloc wr _).1; have hsc0 := cell_of_block hs5 0; have hsc1 := cell_of_block hs5 1; have hsc2 := cell_of_block hs5 2; have hsc3 := cell_of_block hs5 3; have hsc4 := cell_of_block hs5 4; have hsc5 := cell_of_block hs5 5; have hsc6 := cell_of_block hs5 6; have hsc7 := cell_of_block hs5 7; have hsc8 := cell_of_block hs5 8; simp at hsc0 hsc1 hsc2 hsc3 hsc4 hsc5 hsc6 hsc7 hsc8; have hsf0 := free_of_block hs5 0; have hsf1 := free_of_block hs5 1; have hsf2 := free_of_block hs5 2; have hsf3 := free_of_block hs5 3; have hsf4 := free_of_block hs5 4; have hsf5 := free_of_block hs5 5; have hsf6 := free_of_block hs5 6; have hsf7 := free_of_block hs5 7; have hsf8 := free_of_block hs5 8; have HS5 := Lib.hid hs5; clear hs5); clear k3))
        all_goals
          go_wp2_with fail
          go_meet
          first
            | (have hx9 := HS5.out; refine ⟨wr.heap.size, D, c, rfl, rfl, rfl, ?_, ?_, ?_, Nat.le_refl _⟩; (· (repeat (first | with_reducible assumption | with_reducible exact Keeps.refl _ _ | with_reducible apply Keeps.alloc' | with_reducible apply Keeps.drew' | with_reducible apply Keeps.drewN' | (with_reducible apply Keeps.setCell'; rotate_left; · simp)))); (· exact nine_set hx9 _ _ _ _ _ _ _ _ _); (· exact BytesV.of_own (own_nine O3.out (by simp) _ _ _ _ _ _ _ _ _)))
            | (refine ⟨w3.heap.size, D, c, rfl, rfl, rfl, ?_, (MapKept.heap_alloc w3 _).1, (BytesV.of_own O3.out).keep0 (Keeps.alloc _ _ _), kw3.size⟩; (repeat (first | with_reducible assumption | with_reducible exact Keeps.refl _ _ | with_reducible apply Keeps.alloc' | with_reducible apply Keeps.drew' | with_reducible apply Keeps.drewN' | (with_reducible apply Keeps.setCell'; rotate_left; · simp))))
      case rest =>
        obtain ⟨x, D, c, rfl, rfl, rfl, kx, hx, bx, hxs⟩ := hcut
        have HX := Lib.hid ((H0.out).keep0 kx)
        have KX := Lib.hid (kw0.trans (kx.mono (by simp)))
        have BX := Lib.hid bx
        have c11' := HX.out.c11
        have z11 := HX.out.fz 11
        have HB := Lib.hid hx
        have hbx : b ≠ x := by have := H0.out.lt; omega
        unfold segC at hx
        have hxc0 := cell_of_block hx 0
        have hxc1 := cell_of_block hx 1
        have hxc2 := cell_of_block hx 2
        have hxc3 := cell_of_block hx 3
        have hxc4 := cell_of_block hx 4
        have hxc5 := cell_of_block hx 5
        have hxc6 := cell_of_block hx 6
        have hxc7 := cell_of_block hx 7
        have hxc8 := cell_of_block hx 8
        simp at hxc0 hxc1 hxc2 hxc3 hxc4 hxc5 hxc6 hxc7 hxc8
        have hxf0 := free_of_block hx 0
        have hxf1 := free_of_block hx 1
        have hxf2 := free_of_block hx 2
        have hxf3 := free_of_block hx 3
        have hxf4 := free_of_block hx 4
        have hxf5 := free_of_block hx 5
        have hxf6 := free_of_block hx 6
        have hxf7 := free_of_block hx 7
        have hxf8 := free_of_block hx 8
        clear hx bx kx c11 kw0
        go_wp2_with (at_builtin; refine wpList_append_seg rfl (.tmp 26) (.tmp 28) 32 30 rfl Try.underlying32 _ Try.infoSeg rfl rfl wc.heap.size rfl sg none D 0 0 m c (0, 0) (MapKept.heap_alloc wc _).1 ⟨by rw [hops]; exact OptsV.nil _, BX.out.keep0 (Keeps.alloc _ _ _)⟩ ?_; intro v' w' hone kk; have kk2 := (Keeps.alloc [] wc _).trans kk; have H2 := Lib.hid (HX.out.keep0 kk2); have HO := Lib.hid hone; have KK := Lib.hid kk2; have c11b := H2.out.c11; have z11b := H2.out.fz 11; clear kk kk2 hone c11' z11)
        go_roundg 0
        case measure => omega
        case rel => exact Or.inr ⟨rfl, D, c, HO.out.keep (Keeps.setCell _ ⟨b, 11, none⟩ _) H2.out.no, H2.out.s11 _, (KX.out.trans (KK.out.mono (by simp))).trans (Keeps.setCell _ ⟨b, 11, none⟩ _)⟩
    · have H0 := Lib.hid h0
      have HN := Lib.hid hone
      have KW0 := Lib.hid kw0
      have c11 := h0.c11
      obtain ⟨xo, co, rfl, _⟩ := hone
      clear h0 kw0
      go_upto_region 4 with fail
      go_cut [8] (fun q wx => q = .bool false ∧ Keeps [] wr wx)
      case first =>
        have p11 := keeps_cell0 (o := .cells #[.int .u16 0, .int .u16 0, .int .u32 0, .int .u32 0, .int .u8 0, .int .u16 0, .int .u16 0, .slice none 0 0, .slice none 0 0] 30) c11
        have q11 : wr.drew.cell? ⟨b, 11, none⟩ = some (.int .u32 ((s.nxt + n) % 4294967296)) := c11
        go_region_held3 (fun w' => w'.cell? ⟨b, 11, none⟩ = some (.int .u32 ((s.nxt + n) % 4294967296))) (first | with_reducible assumption | exact cell_keeps (S := []) (w := wr) (by (repeat (first | with_reducible assumption | with_reducible exact Keeps.refl _ _ | with_reducible apply Keeps.alloc' | with_reducible apply Keeps.drew' | with_reducible apply Keeps.drewN' | (with_reducible apply Keeps.setCell'; rotate_left; · simp)))) c11 (by simp)) (first | (go_at_call 45; refine (HW1.out _ (H0.out.keep0 (by (repeat (first | with_reducible exact Keeps.refl _ _ | with_reducible apply Keeps.alloc' | with_reducible apply Keeps.drew' | with_reducible apply Keeps.drewN' | (with_reducible apply Keeps.setCell'; rotate_left; · simp)))))).mono ?_; rintro e w2 ⟨rfl, n2, rfl⟩) | (go_at_call 44; refine (HP1.out _ (H0.out.keep0 (by (repeat (first | with_reducible exact Keeps.refl _ _ | with_reducible apply Keeps.alloc' | with_reducible apply Keeps.drew' | with_reducible apply Keeps.drewN' | (with_reducible apply Keeps.setCell'; rotate_left; · simp)))))).mono ?_; rintro e w3 ⟨rfl, k3⟩; have kw3 : Keeps [] wr w3 := Keeps.trans (by (repeat (first | with_reducible exact Keeps.refl _ _ | with_reducible apply Keeps.alloc' | with_reducible apply Keeps.drew' | with_reducible apply Keeps.drewN' | (with_reducible apply Keeps.setCell'; rotate_left; · simp)))) k3; unfold HS.ack segV; try (have hs5 := (k3.block wr.heap.size (by simp) (by simp)).trans (MapKept.heap_alloc wr _).1; have hsc0 := cell_of_block hs5 0; have hsc1 := cell_of_block hs5 1; have hsc2 := cell_of_block hs5 2; have hsc3 := cell_of_block hs5 3; have hsc4 := cell_of_block hs5 4; have hsc5 := cell_of_block hs5 5; have hsc6 := cell_of_block hs5 6; have hsc7 := cell_of_block hs5 7; have hsc8 := cell_of_block hs5 8; simp at hsc0 hsc1 hsc2 hsc3 hsc4 hsc5 hsc6 hsc7 hsc8; have hsf0 := free_of_block hs5 0; have hsf1 := free_of_block hs5 1; have hsf2 := free_of_block hs5 2; have hsf3 := free_of_block hs5 3; have hsf4 := free_of_block hs5 4; have hsf5 := free_of_block hs5 5; have hsf6 := free_of_block hs5 6; have hsf7 := free_of_block hs5 7; have hsf8 := free_of_block hs5 8; clear hs5); clear k3))
        all_goals
          go_wp2_with fail
          go_meet
          exact ⟨rfl, by (repeat (first | with_reducible assumption | with_reducible exact Keeps.refl _ _ | with_reducible apply Keeps.alloc' | with_reducible apply Keeps.drew' | with_reducible apply Keeps.drewN' | (with_reducible apply Keeps.setCell'; rotate_left; · simp)))⟩
      case rest =>
        obtain ⟨rfl, kx⟩ := hcut
        have HX := Lib.hid (H0.out.keep0 kx)
        have KX := Lib.hid kx
        have c10 := HX.out.c10
        have c26 := HX.out.c26
        have z26 := HX.out.fz 26
        clear kx c11
        by_cases hu : s.una = s.fin
        · have hb : (s.una == s.fin) = true := by simpa using hu
          rw [if_pos hu] at F1
          clear hu
          go_wp2_with fail
          go_quiet ((go_at_call 47; exact Calls.quiet_of (HE1.out _ (HX.out.keep0 (Keeps.drewN _ _ _)))))
          go_wp2_with fail
          go_ret
          refine ⟨_, D, c, rfl, ((HN.out.keep0 KX.out).keep0 (Keeps.drewN _ _ _)).keep (Keeps.setCell _ ⟨b, 26, none⟩ _) (HX.out.keep0 (Keeps.drewN _ _ _)).no, ?_, ?_⟩
          · rw [F1.out]
            exact (HX.out.s26 _).keep0 (Keeps.drewN _ _ _)
          · refine (KW0.out.trans (KX.out.mono (by simp))).trans ?_
            (repeat (first | with_reducible assumption | with_reducible exact Keeps.refl _ _ | with_reducible apply Keeps.alloc' | with_reducible apply Keeps.drew' | with_reducible apply Keeps.drewN' | (with_reducible apply Keeps.setCell'; rotate_left; · simp)))
        · have hb : (s.una == s.fin) = false := by simpa using hu
          rw [if_neg hu] at F1
          clear hu
          cases hs : s.set
          · rw [hs] at c26
            rw [if_neg (by simp [hs])] at F1
            clear hs
            go_wp2_with fail
            go_quiet ((go_at_call 47; exact Calls.quiet_of (HE1.out _ (HX.out.keep0 (Keeps.drewN _ _ _)))))
            go_wp2_with fail
            refine (HB1.out _ (HX.out.keep0 (Keeps.drewN _ _ _))).mono ?_
            rintro e w5 ⟨rfl, h5, k5⟩
            have H5 := Lib.hid h5
            have K5 := Lib.hid k5
            clear h5 k5
            go_wp2_with fail
            go_ret
            rw [F1.out]
            exact ⟨_, D, c, rfl, ((HN.out.keep0 KX.out).keep0 (Keeps.drewN _ _ _)).keep K5.out (HX.out.keep0 (Keeps.drewN _ _ _)).no, H5.out, (KW0.out.trans ((KX.out.trans (Keeps.drewN _ _ _)).mono (by simp))).trans K5.out⟩
          · rw [hs] at c26
            rw [if_pos hs] at F1
            clear hs
            go_wp2_with fail
            go_quiet ((go_at_call 47; exact Calls.quiet_of (HE1.out _ (HX.out.keep0 (Keeps.drewN _ _ _)))))
            go_wp2_with fail
            go_ret
            rw [F1.out]
            exact ⟨_, D, c, rfl, (HN.out.keep0 KX.out).keep0 (Keeps.drewN _ _ _), HX.out.keep0 (Keeps.drewN _ _ _), KW0.out.trans ((KX.out.trans (Keeps.drewN _ _ _)).mono (by simp))⟩
end Go.Proofs.Ytgaidloicmkdaaa
