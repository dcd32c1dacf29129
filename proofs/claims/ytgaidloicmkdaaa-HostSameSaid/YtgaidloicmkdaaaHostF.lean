/-
  The walk of package host: what an Ack does, where nothing is closed. Condition: a host's numbers are in the ranges of their kinds; windows are not scaled.
-/
import Derived.Test.YtgaidloicmkdaaaHostE
namespace Go.Proofs.Ytgaidloicmkdaaa
open Go.RowKit
set_option linter.unusedVariables false
set_option linter.unusedSimpArgs false
attribute [local go_sem ↓] Go.wp_at_zero Go.wp_at_succ

def HS.acked (s : HS) (g : Seg) (now : Int) : HS := if lessI s.una g.ak then HS.begin { s with una := g.ak } now else s
def HS.newer (s : HS) (g : Seg) : Bool := lessI s.wl1 g.sq || (s.wl1 == g.sq && !lessI g.ak s.wl2)
def HS.edged (s : HS) (g : Seg) : HS := { s with edge := (g.ak + g.wn) % 4294967296, wl1 := g.sq, wl2 := g.ak }
def HS.upds (s : HS) (g : Seg) (any : Bool) : Bool := any || (!lessI g.ak s.una && s.newer g)
def HS.sees (s : HS) (g : Seg) (now : Int) (any : Bool) : HS := if (s.acked g now).upds g any then (s.acked g now).edged g else s.acked g now

theorem HS.acked_ok {s : HS} (ok : s.Ok) {g : Seg} (gok : g.Ok) (now : Int) : (s.acked g now).Ok := by
  unfold HS.acked
  split
  · exact HS.begin_ok' (s := { s with una := g.ak }) ⟨ok.lp, ok.iss, ok.smss, ok.sscale, ok.room, ok.rto, ok.tries, ok.rem, gok.ak, ok.nxt, ok.irs, ok.next, ok.edge, ok.wl1, ok.wl2, ok.out, ok.inn, ok.read, ok.free, ok.mss, ok.scale, ok.scaled⟩ now
  · exact ok
where
  HS.begin_ok' {s : HS} (ok : s.Ok) (now : Int) : (s.begin now).Ok :=
    ⟨ok.lp, ok.iss, ok.smss, ok.sscale, ok.room, ok.rto, ok.tries, ok.rem, ok.una, ok.nxt, ok.irs, ok.next, ok.edge, ok.wl1, ok.wl2, ok.out, ok.inn, ok.read, ok.free, ok.mss, ok.scale, ok.scaled⟩
theorem HS.sees_ok {s : HS} (ok : s.Ok) {g : Seg} (gok : g.Ok) (now : Int) (any : Bool) : (s.sees g now any).Ok := by
  have o := HS.acked_ok ok gok now
  unfold HS.sees
  split
  · exact ⟨o.lp, o.iss, o.smss, o.sscale, o.room, o.rto, o.tries, o.rem, o.una, o.nxt, o.irs, o.next, by unfold U32 HS.edged; simp only; omega, gok.sq, gok.ak, o.out, o.inn, o.read, o.free, o.mss, o.scale, o.scaled⟩
  · exact o

theorem heap_alloc_eq {w : World} {n : Nat} (o : Obj) (h : w.heap.size = n) : (w.alloc o).heap[n]? = some o := by subst h; exact (MapKept.heap_alloc w o).1
theorem drew_cell (X : World) (p : Addr) : X.drew.cell? p = X.cell? p := rfl
/-- The blocks that sees lays first. -/
structure Laid3 (w : World) (B b : Nat) (g : Seg) (ov dv : Value) (now : Int) : Prop where
  p : w.heap[B]? = some (.cells #[.pointer (some ⟨b, 0, none⟩)] 31 (0, 0))
  s : w.heap[B + 1]? = some (.cells #[.int .u16 g.sp, .int .u16 g.dp, .int .u32 g.sq, .int .u32 g.ak, .int .u8 g.fl, .int .u16 g.wn, .int .u16 g.ug, ov, dv] 30 (0, 0))
  n : w.heap[B + 2]? = some (.cells #[.int .u64 now] 24 (0, 0))
theorem Laid3.keep {w w' : World} {B b : Nat} {g : Seg} {ov dv : Value} {now : Int} (h : Laid3 w B b g ov dv now) (k : Keeps [b] w w') (hb : b < B) : Laid3 w' B b g ov dv now :=
  ⟨(k.block _ (Array.getElem?_eq_some_iff.1 h.p).1 (by simp; omega)).trans h.p, (k.block _ (Array.getElem?_eq_some_iff.1 h.s).1 (by simp; omega)).trans h.s, (k.block _ (Array.getElem?_eq_some_iff.1 h.n).1 (by simp; omega)).trans h.n⟩

set_option maxRecDepth 100000 in
set_option maxHeartbeats 2000000 in
theorem hsees_open {w : World} {b : Nat} {s : HS} (h : HostAt w b s) (ok : s.Ok) (hcl : s.closed = false) (hsc : s.scale = 0) (g : Seg) (gok : g.Ok) (A1 A2 : Option Addr) (n1 c1 n2 c2 : Nat) (now : Int) (n0 : 0 ≤ now) (nn : now ≤ 4398046511104) (any : Bool) :
    Calls Try.prog 60 #[.pointer (some ⟨b, 0, none⟩), segV g (.slice A1 n1 c1) (.slice A2 n2 c2), .int .u64 now, .bool any] w fun e w' => e = .returned (.tuple #[]) ∧ HostAt w' b (s.sees g now any) ∧ Keeps [b] w w' := by
  have aok := HS.acked_ok ok gok now
  have acl : (s.acked g now).closed = false := by unfold HS.acked; split <;> exact hcl
  have asc : (s.acked g now).scale = 0 := by unfold HS.acked; split <;> exact hsc
  have F := Lib.hid (show s.sees g now any = if (s.acked g now).upds g any then (s.acked g now).edged g else s.acked g now from rfl)
  have FA := Lib.hid (show s.acked g now = if lessI s.una g.ak then HS.begin { s with una := g.ak } now else s from rfl)
  have L1 := Lib.hid (fun W => less_any W s.una g.ak ok.una gok.ak)
  have HB := Lib.hid (fun W (hW : HostAt W b { s with una := g.ak }) => hbegin_any hW now (by have := ok.rto; simp only; omega) (by have := ok.rto; simp only; omega) n0 nn)
  have H := Lib.hid h
  obtain ⟨v0, v1⟩ := gok.wn
  obtain ⟨a0, a1⟩ := gok.ak
  have HSQ := Lib.hid gok.sq
  have HAK := Lib.hid gok.ak
  have hlt := h.lt
  have AOK := Lib.hid aok
  have ACL := Lib.hid acl
  have ASC := Lib.hid asc
  clear h ok gok aok acl asc hcl hsc
  unfold segV
  have NW := Lib.hid (show (s.acked g now).upds g any = (any || (!lessI g.ak (s.acked g now).una && (s.acked g now).newer g)) from rfl)
  generalize hL : lessI s.una g.ak = L at *
  clear hL
  go_enter Try.func60, Try.ntmps60
  go_upto_region 1 with fail
  refine wp_gn (fun W hW => ?_)
  have l0 : Laid3 W w.heap.size b g (.slice A1 n1 c1) (.slice A2 n2 c2) now := by
    have e1 : ∀ o, (w.alloc o).heap.size = w.heap.size + 1 := fun o => by simp
    have e2 : ∀ o o', ((w.alloc o).alloc o').heap.size = w.heap.size + 2 := fun o o' => by simp
    rw [hW]
    exact ⟨(Below.heap_alloc _ _ _ (by simp; omega)).trans ((Below.heap_alloc _ _ _ (by simp)).trans (MapKept.heap_alloc w _).1), (Below.heap_alloc _ _ _ (by simp)).trans (heap_alloc_eq _ (e1 _)), heap_alloc_eq _ (e2 _ _)⟩
  have k0 : Keeps [b] w W := by rw [hW]; (repeat (first | with_reducible assumption | with_reducible exact Keeps.refl _ _ | with_reducible apply Keeps.alloc' | with_reducible apply Keeps.drew' | with_reducible apply Keeps.drewN' | (with_reducible apply Keeps.setCell'; rotate_left; · simp)))
  have H0 := Lib.hid (H.out.keep0 (show Keeps [] w W by rw [hW]; (repeat (first | with_reducible assumption | with_reducible exact Keeps.refl _ _ | with_reducible apply Keeps.alloc' | with_reducible apply Keeps.drew' | with_reducible apply Keeps.drewN' | (with_reducible apply Keeps.setCell'; rotate_left; · simp)))))
  have L0 := Lib.hid l0
  have K0 := Lib.hid k0
  clear hW l0 k0
  have lp := cell_of_block L0.out.p 0
  have ls := cell_of_block L0.out.s 3
  have ln := cell_of_block L0.out.n 0
  have l10 := H0.out.c10
  simp at lp ls ln
  go_wp2_with fail
  go_quiet ((go_at_call 59; exact quiet_same (L1.out _)))
  go_upto_if 18 with fail
  go_cut [] (fun wx => HostAt wx b (s.acked g now) ∧ Keeps [b] W wx)
  case first =>
    cases L
    · go_wp2_with fail
      go_meet
      rw [FA.out]
      exact ⟨H0.out.keep0 (Keeps.drewN _ _ _), (Keeps.drewN _ _ _)⟩
    · have f10 := H0.out.fz 10
      go_wp2_with fail
      refine (HB.out _ ((H0.out.keep0 (Keeps.drewN _ _ _)).s10 _)).mono ?_
      rintro e w3 ⟨rfl, h3, k3⟩
      go_wp2_with fail
      go_meet
      rw [FA.out]
      exact ⟨h3, Keeps.trans (by (repeat (first | with_reducible assumption | with_reducible exact Keeps.refl _ _ | with_reducible apply Keeps.alloc' | with_reducible apply Keeps.drew' | with_reducible apply Keeps.drewN' | (with_reducible apply Keeps.setCell'; rotate_left; · simp)))) k3⟩
  case rest =>
    obtain ⟨h1, k1⟩ := hcut
    clear lp ls ln l10
    have L1' := L0.out.keep k1 hlt
    have K1 := Lib.hid (K0.out.trans k1)
    have LL := Lib.hid L1'
    clear FA HB L1 k1 L0 H0
    generalize s.acked g now = s1 at *
    have H1 := Lib.hid h1
    have M1 := Lib.hid (fun W => less_any W s1.wl1 g.sq AOK.out.wl1 HSQ.out)
    have M2 := Lib.hid (fun W => less_any W g.ak s1.wl2 HAK.out AOK.out.wl2)
    have M3 := Lib.hid (fun W => less_any W g.ak s1.una HAK.out AOK.out.una)
    have NV := Lib.hid (show s1.newer g = (lessI s1.wl1 g.sq || (s1.wl1 == g.sq && !lessI g.ak s1.wl2)) from rfl)
    have c8 := h1.c24
    have c9 := h1.c25
    have c10 := h1.c10
    have lp := cell_of_block L1'.p 0
    have ls2 := cell_of_block L1'.s 2
    have ls3 := cell_of_block L1'.s 3
    have ls5 := cell_of_block L1'.s 5
    simp at lp ls2 ls3 ls5
    generalize lessI s1.wl1 g.sq = N1 at *
    generalize lessI g.ak s1.wl2 = N2 at *
    generalize lessI g.ak s1.una = U at *
    generalize hE : (s1.wl1 == g.sq) = E at *
    clear h1 L1'
    go_upto_region 4 with fail
    go_cut [8] (fun q wx => q = .bool (s1.newer g) ∧ Keeps [] wc wx)
    case first =>
      cases N1
      · cases E
        · go_quiet ((go_at_call 59; exact quiet_same (M1.out _)))
          go_wp2_with fail
          go_meet
          exact ⟨by rw [NV.out]; rfl, Keeps.drewN _ _ _⟩
        · go_quiet ((first | (go_at_call_of 59 (Value.int IntKind.u32 s1.wl1); exact quiet_same (M1.out _)) | (go_at_call 59; exact quiet_same (M2.out _))))
          go_wp2_with fail
          go_meet
          exact ⟨by rw [NV.out]; cases N2 <;> rfl, Keeps.drewN _ _ _⟩
      · go_quiet ((go_at_call 59; exact quiet_same (M1.out _)))
        go_wp2_with fail
        go_meet
        exact ⟨by rw [NV.out]; rfl, Keeps.drewN _ _ _⟩
    case rest =>
      obtain ⟨rfl, k2⟩ := hcut
      clear lp ls2 ls3 ls5 c8 c9 c10 M1 M2 NV
      have L2 := LL.out.keep (k2.mono (T := [b]) (by simp)) hlt
      have H2 := Lib.hid (H1.out.keep0 k2)
      have K2 := Lib.hid (K1.out.trans (k2.mono (by simp)))
      have NW2 := NW
      generalize s1.newer g = NE at *
      clear k2
      have e10 := H2.out.c10
      have e13 := H2.out.c13
      have e20 := H2.out.c20
      rw [ACL.out] at e13
      rw [ASC.out] at e20
      have f23 := H2.out.fz 23
      have f24 := H2.out.fz 24
      have f25 := H2.out.fz 25
      have e23 := H2.out.c23
      have e24 := H2.out.c24
      have e25 := H2.out.c25
      have lp := cell_of_block L2.p 0
      have ls2 := cell_of_block L2.s 2
      have ls3 := cell_of_block L2.s 3
      have ls5 := cell_of_block L2.s 5
      simp at lp ls2 ls3 ls5
      have LL2 := Lib.hid L2
      clear L2
      go_upto_region 5 with fail
      go_cut [66] (fun q wx => q = .bool (s1.upds g any) ∧ Keeps [] wc wx)
      case first =>
        cases any
        · cases U
          · cases NE
            · go_quiet ((go_at_call 59; exact quiet_same (M3.out _)))
              go_wp2_with fail
              go_meet
              exact ⟨by rw [NW2.out]; rfl, Keeps.drewN _ _ _⟩
            · go_quiet ((go_at_call 59; exact quiet_same (M3.out _)))
              go_wp2_with fail
              go_meet
              exact ⟨by rw [NW2.out]; rfl, Keeps.drewN _ _ _⟩
          · go_quiet ((go_at_call 59; exact quiet_same (M3.out _)))
            go_wp2_with fail
            go_meet
            exact ⟨by rw [NW2.out]; rfl, Keeps.drewN _ _ _⟩
        · go_quiet (fail)
          go_wp2_with fail
          go_meet
          exact ⟨by rw [NW2.out]; rfl, Keeps.drewN _ _ _⟩
      case rest =>
        obtain ⟨rfl, k3⟩ := hcut
        clear NW NW2 e10 e13 e20 f23 f24 f25 e23 e24 e25 lp ls2 ls3 ls5 M3
        have L3 := LL2.out.keep (k3.mono (T := [b]) (by simp)) hlt
        have H3 := Lib.hid (H2.out.keep0 k3)
        have K3 := Lib.hid (K2.out.trans (k3.mono (by simp)))
        clear k3
        have e13 := H3.out.c13
        have e20 := H3.out.c20
        rw [ACL.out] at e13
        rw [ASC.out] at e20
        have f23 := H3.out.fz 23
        have f24 := H3.out.fz 24
        have f25 := H3.out.fz 25
        have e23 := H3.out.c23
        have e24 := H3.out.c24
        have e25 := H3.out.c25
        have lp := cell_of_block L3.p 0
        have ls2 := cell_of_block L3.s 2
        have ls3 := cell_of_block L3.s 3
        have ls5 := cell_of_block L3.s 5
        simp at lp ls2 ls3 ls5
        clear L3
        have hb1 : ¬ w.heap.size = b := by omega
        have hb2 : ¬ w.heap.size + 1 = b := by omega
        have hb3 : ¬ b = w.heap.size := by omega
        have hb4 : ¬ b = w.heap.size + 1 := by omega
        cases hU : s1.upds g any
        · rw [hU] at F
          clear hU
          go_wp2_with fail
          go_quiet (fail)
          go_wp2_with fail
          refine bodyPost_ret (results_none rfl _ _ _) rfl ⟨rfl, ?_, ?_⟩
          · rw [F.out]
            exact H3.out.keep0 (Keeps.drewN _ _ _)
          · exact K3.out.trans (Keeps.drewN _ _ _)
        · rw [hU] at F
          clear hU
          go_wp2_with fail
          have hs1 : IntKind.u32.wrap g.wn = g.wn := by rw [IntKind.wrap_u32]; omega
          have hs2 : IntKind.u32.wrap (g.ak + g.wn) = (g.ak + g.wn) % 4294967296 := IntKind.wrap_u32 _
          go_region_held3 (fun w' => w'.cell? ⟨w.heap.size, 0, none⟩ = some (.pointer (some ⟨b, 0, none⟩)) ∧ w'.cell? ⟨w.heap.size + 1, 3, none⟩ = some (.int .u32 g.ak) ∧ w'.cell? ⟨w.heap.size + 1, 5, none⟩ = some (.int .u16 g.wn) ∧ w'.cell? ⟨b, 20, none⟩ = some (.int .i64 0) ∧ w'.cell? ⟨w.heap.size + 1, 2, none⟩ = some (.int .u32 g.sq)) (refine ⟨?_, ?_, ?_, ?_, ?_⟩ <;> (rw [drew_cell]; (repeat (rw [World.cell?_setCell_other _ _ _ _ (by simp; try omega)])); with_reducible assumption)) (fail)
          go_upto_region 7 with fail
          refine wp_gn (fun W5 hW5 => ?_)
          have h5 : HostAt W5 b (s1.edged g) := by
            rw [hW5]; exact (((H3.out.s23 _).s24 _).s25 _).keep0 (Keeps.drew _ _)
          have k5 : Keeps [b] wc W5 := by rw [hW5]; (repeat (first | with_reducible assumption | with_reducible exact Keeps.refl _ _ | with_reducible apply Keeps.alloc' | with_reducible apply Keeps.drew' | with_reducible apply Keeps.drewN' | (with_reducible apply Keeps.setCell'; rotate_left; · simp)))
          have K5 := Lib.hid (K3.out.trans k5)
          have H5 := Lib.hid h5
          have lp5 := cell_keeps k5 lp (by simp; omega)
          have l13 := h5.c13
          rw [show (s1.edged g).closed = false from ACL.out] at l13
          clear hW5 h5 k5 lp ls2 ls3 ls5 e13 e20 f23 f24 f25 e23 e24 e25 hs1 hs2
          go_wp2_with fail
          go_quiet (fail)
          go_wp2_with fail
          refine bodyPost_ret (results_none rfl _ _ _) rfl ⟨rfl, ?_, ?_⟩
          · rw [F.out]
            exact H5.out.keep0 (Keeps.drewN _ _ _)
          · exact K5.out.trans (Keeps.drewN _ _ _)
end Go.Proofs.Ytgaidloicmkdaaa
