/-
  The walks of package host: what a SYN says, the answer at SynSent: for a setup that offers neither scaling nor SACK. Condition: a host's numbers are in the ranges of their kinds.
-/
import Derived.Test.YtgaidloicmkdaaaHostR
namespace Go.Proofs.Ytgaidloicmkdaaa
open Go.RowKit
set_option linter.unusedVariables false
set_option linter.unusedSimpArgs false
attribute [local go_sem ↓] Go.wp_at_zero Go.wp_at_succ

def HS.peer (s : HS) (g : Seg) (m : Int) : HS := { s with irs := g.sq, next := (g.sq + 1) % 4294967296, mss := m, scaled := false, scale := 0, sack := false, edge := (s.iss + 1 + g.wn) % 4294967296, wl1 := g.sq, wl2 := g.ak }

set_option maxRecDepth 100000 in
set_option maxHeartbeats 2000000 in
theorem hpeer_plain {w : World} {b : Nat} {s : HS} (h : HostAt w b s) (ok : s.Ok) (hsk : s.ssack = false) (g : Seg) (gok : g.Ok) (A1 A2 : Option Addr) (n1 c1 n2 c2 : Nat) (hg : SegAt w g (.slice A1 n1 c1) (.slice A2 n2 c2)) (hsc : findO g.ops 3 1 = none) (ans : Bool) (m : Int)
    (hm : ((mssI (findO g.ops 2 2)).2 = true ∧ (mssI (findO g.ops 2 2)).1 = m ∧ 1 ≤ m ∧ m ≤ 1460) ∨ ((mssI (findO g.ops 2 2)).2 = false ∧ m = 536)) :
    Calls Try.prog 54 #[.pointer (some ⟨b, 0, none⟩), segV g (.slice A1 n1 c1) (.slice A2 n2 c2), .bool ans] w fun e w' => e = .returned (.tuple #[]) ∧ HostAt w' b (s.peer g m) ∧ Keeps [b] w w' := by
  obtain ⟨i0, i1⟩ := ok.iss
  obtain ⟨q0, q1⟩ := gok.sq
  obtain ⟨a0, a1⟩ := gok.ak
  obtain ⟨v0, v1⟩ := gok.wn
  have HM := Lib.hid (fun W (hW : OptsV W (.slice A1 n1 c1) g.ops) => mss_any W A1 n1 c1 g.ops hW)
  have hsc' : ∀ W, OptsV W (.slice A1 n1 c1) g.ops → Calls Try.prog 73 #[.slice A1 n1 c1] W fun e w' => e = .returned (.tuple #[.int .i64 0, .bool false]) ∧ Keeps [] W w' := by
    intro W hW
    have := scale_any W A1 n1 c1 g.ops hW
    rw [hsc] at this
    exact this
  have HSC := Lib.hid hsc'
  have HO := Lib.hid hg.1
  have H := Lib.hid h
  have HSK := Lib.hid hsk
  have F := Lib.hid (show s.peer g m = { s with irs := g.sq, next := (g.sq + 1) % 4294967296, mss := m, scaled := false, scale := 0, sack := false, edge := (s.iss + 1 + g.wn) % 4294967296, wl1 := g.sq, wl2 := g.ak } from rfl)
  have hlt := h.lt
  clear h ok gok hsc' hsc hsk hg
  unfold segV
  go_enter Try.func54, Try.ntmps54
  go_upto_region 1 with fail
  refine wp_gn (fun W hW => ?_)
  have hx : W.heap[w.heap.size]? = some (.cells #[.int .u16 g.sp, .int .u16 g.dp, .int .u32 g.sq, .int .u32 g.ak, .int .u8 g.fl, .int .u16 g.wn, .int .u16 g.ug, .slice A1 n1 c1, .slice A2 n2 c2] 30 (0, 0)) := by rw [hW]; exact (MapKept.heap_alloc w _).1
  have hk : Keeps [] w W := by rw [hW]; exact Keeps.alloc _ _ _
  have HX := Lib.hid hx
  have K := Lib.hid (hk.mono (T := [b]) (by simp))
  have H0 := Lib.hid (H.out.keep0 hk)
  have O0 := Lib.hid (HO.out.keep0 hk)
  have hne : ¬ w.heap.size = b := by omega
  have hne2 : ¬ b = w.heap.size := by omega
  clear hW hk
  have hxc2 := cell_of_block hx 2
  simp at hxc2
  have hxf2 := free_of_block hx 2
  have HA0 := H0
  have H0c14 := H0.out.c14
  have H0f14 := H0.out.fz 14
  have H0c15 := H0.out.c15
  have H0f15 := H0.out.fz 15
  have H0c19 := H0.out.c19
  have H0f19 := H0.out.fz 19
  try simp only at H0c14 H0c15 H0c19
  clear hx
  go_region
  go_upto_region 3 with fail
  refine wp_gn (fun W2 hW2 => ?_)
  have h2 : HostAt W2 b { s with irs := g.sq, next := (g.sq + 1) % 4294967296, mss := 536 } := by
    rw [hW2]; exact (((H0.out.s14 _).s15 _).s19 _).keep0 (Keeps.drew _ _)
  have k2 : Keeps [b] W W2 := by rw [hW2]; (repeat (first | with_reducible assumption | with_reducible exact Keeps.refl _ _ | with_reducible apply Keeps.alloc' | with_reducible apply Keeps.drew' | with_reducible apply Keeps.drewN' | (with_reducible apply Keeps.setCell'; rotate_left; · simp)))
  have O2 := Lib.hid (O0.out.keep k2 H0.out.no)
  have hx2 := (k2.block _ (Array.getElem?_eq_some_iff.1 HX.out).1 (by simpa using hne)).trans HX.out
  have H2 := Lib.hid h2
  have K2 := Lib.hid (K.out.trans k2)
  have HX2 := Lib.hid hx2
  clear hW2 h2 k2 hxc2 hxf2
  clear H0c14 H0f14 H0c15 H0f15 H0c19 H0f19
  have hx2c7 := cell_of_block hx2 7
  simp at hx2c7
  have hx2f7 := free_of_block hx2 7
  clear hx2
  go_wp2_with fail
  refine (HM.out _ O2.out).mono ?_
  rintro e w3 ⟨rfl, k3⟩
  have H3 := Lib.hid (H2.out.keep0 k3)
  have K3 := Lib.hid (K2.out.trans (k3.mono (by simp)))
  have O3 := Lib.hid (O2.out.keep0 k3)
  have hx3 := (k3.block _ (Array.getElem?_eq_some_iff.1 HX2.out).1 (by simp)).trans HX2.out
  have HX3 := Lib.hid hx3
  clear k3 hx2c7 hx2f7
  have H3c19 := H3.out.c19
  have H3f19 := H3.out.fz 19
  try simp only at H3c19
  rcases hm with ⟨m1, m2, m3, m4⟩ | ⟨m1, rfl⟩
  · rw [m1]
    try rw [m2]
    clear m1
    go_upto_region 7 with fail
    refine wp_gn (fun W4 hW4 => ?_)
    have h4 : HostAt W4 b { s with irs := g.sq, next := (g.sq + 1) % 4294967296, mss := m } := by
      rw [hW4]; first | exact (H3.out.s19 _).s19 _ | exact H3.out.s19 _
    have k4 : Keeps [b] w3 W4 := by rw [hW4]; (repeat (first | with_reducible assumption | with_reducible exact Keeps.refl _ _ | with_reducible apply Keeps.alloc' | with_reducible apply Keeps.drew' | with_reducible apply Keeps.drewN' | (with_reducible apply Keeps.setCell'; rotate_left; · simp)))
    have O4 := Lib.hid (O3.out.keep k4 H3.out.no)
    have hx4 := (k4.block _ (Array.getElem?_eq_some_iff.1 HX3.out).1 (by simpa using hne)).trans HX3.out
    have H4 := Lib.hid h4
    have K4 := Lib.hid (K3.out.trans k4)
    have HX4 := Lib.hid hx4
    clear hW4 h4 k4
    clear H3c19 H3f19
    have hx4c7 := cell_of_block hx4 7
    simp at hx4c7
    have hx4f7 := free_of_block hx4 7
    clear hx4
    go_wp2_with fail
    refine (HSC.out _ O4.out).mono ?_
    rintro e w5 ⟨rfl, k5⟩
    have H5 := Lib.hid (H4.out.keep0 k5)
    have K5 := Lib.hid (K4.out.trans (k5.mono (by simp)))
    have hx5 := (k5.block _ (Array.getElem?_eq_some_iff.1 HX4.out).1 (by simp)).trans HX4.out
    clear k5 hx4c7 hx4f7
    have d4 := H5.out.c4
    simp only at d4
    rw [HSK.out] at d4
    have HX5 := Lib.hid hx5
    have H5c20 := H5.out.c20
    have H5f20 := H5.out.fz 20
    have H5c21 := H5.out.c21
    have H5f21 := H5.out.fz 21
    have H5c22 := H5.out.c22
    have H5f22 := H5.out.fz 22
    try simp only at H5c20 H5c21 H5c22
    go_upto_region 13 with fail
    refine wp_gn (fun W6 hW6 => ?_)
    have h6 : HostAt W6 b { s with irs := g.sq, next := (g.sq + 1) % 4294967296, mss := m, scaled := false, scale := 0, sack := false } := by
      rw [hW6]; exact ((H5.out.s21 _).s20 _).s22 _
    have k6 : Keeps [b] w5 W6 := by rw [hW6]; (repeat (first | with_reducible assumption | with_reducible exact Keeps.refl _ _ | with_reducible apply Keeps.alloc' | with_reducible apply Keeps.drew' | with_reducible apply Keeps.drewN' | (with_reducible apply Keeps.setCell'; rotate_left; · simp)))
    have hx6 := (k6.block _ (Array.getElem?_eq_some_iff.1 HX5.out).1 (by simpa using hne)).trans HX5.out
    have H6 := Lib.hid h6
    have K6 := Lib.hid (K5.out.trans k6)
    clear hW6 h6 k6 d4 hx5
    clear H5c20 H5f20 H5c21 H5f21 H5c22 H5f22
    have hx6c2 := cell_of_block hx6 2
    have hx6c3 := cell_of_block hx6 3
    have hx6c5 := cell_of_block hx6 5
    simp at hx6c2 hx6c3 hx6c5
    have hx6f2 := free_of_block hx6 2
    have hx6f3 := free_of_block hx6 3
    have hx6f5 := free_of_block hx6 5
    clear hx6
    have H6c1 := H6.out.c1
    have H6f1 := H6.out.fz 1
    have H6c23 := H6.out.c23
    have H6f23 := H6.out.fz 23
    have H6c24 := H6.out.c24
    have H6f24 := H6.out.fz 24
    have H6c25 := H6.out.c25
    have H6f25 := H6.out.fz 25
    try simp only at H6c1 H6c23 H6c24 H6c25
    go_region
    go_end0
    refine ⟨rfl, ?_, ?_⟩
    · rw [F.out]
      exact (((H6.out.s23 _).s24 _).s25 _).keep0 (Keeps.drew _ _)
    · refine K6.out.trans ?_
      (repeat (first | with_reducible assumption | with_reducible exact Keeps.refl _ _ | with_reducible apply Keeps.alloc' | with_reducible apply Keeps.drew' | with_reducible apply Keeps.drewN' | (with_reducible apply Keeps.setCell'; rotate_left; · simp)))
  · rw [m1]
    try rw [m2]
    clear m1
    go_upto_region 7 with fail
    refine wp_gn (fun W4 hW4 => ?_)
    have h4 : HostAt W4 b { s with irs := g.sq, next := (g.sq + 1) % 4294967296, mss := 536 } := by
      rw [hW4]; first | exact (H3.out.s19 _).s19 _ | exact H3.out.s19 _
    have k4 : Keeps [b] w3 W4 := by rw [hW4]; (repeat (first | with_reducible assumption | with_reducible exact Keeps.refl _ _ | with_reducible apply Keeps.alloc' | with_reducible apply Keeps.drew' | with_reducible apply Keeps.drewN' | (with_reducible apply Keeps.setCell'; rotate_left; · simp)))
    have O4 := Lib.hid (O3.out.keep k4 H3.out.no)
    have hx4 := (k4.block _ (Array.getElem?_eq_some_iff.1 HX3.out).1 (by simpa using hne)).trans HX3.out
    have H4 := Lib.hid h4
    have K4 := Lib.hid (K3.out.trans k4)
    have HX4 := Lib.hid hx4
    clear hW4 h4 k4
    clear H3c19 H3f19
    have hx4c7 := cell_of_block hx4 7
    simp at hx4c7
    have hx4f7 := free_of_block hx4 7
    clear hx4
    go_wp2_with fail
    refine (HSC.out _ O4.out).mono ?_
    rintro e w5 ⟨rfl, k5⟩
    have H5 := Lib.hid (H4.out.keep0 k5)
    have K5 := Lib.hid (K4.out.trans (k5.mono (by simp)))
    have hx5 := (k5.block _ (Array.getElem?_eq_some_iff.1 HX4.out).1 (by simp)).trans HX4.out
    clear k5 hx4c7 hx4f7
    have d4 := H5.out.c4
    simp only at d4
    rw [HSK.out] at d4
    have HX5 := Lib.hid hx5
    have H5c20 := H5.out.c20
    have H5f20 := H5.out.fz 20
    have H5c21 := H5.out.c21
    have H5f21 := H5.out.fz 21
    have H5c22 := H5.out.c22
    have H5f22 := H5.out.fz 22
    try simp only at H5c20 H5c21 H5c22
    go_upto_region 13 with fail
    refine wp_gn (fun W6 hW6 => ?_)
    have h6 : HostAt W6 b { s with irs := g.sq, next := (g.sq + 1) % 4294967296, mss := 536, scaled := false, scale := 0, sack := false } := by
      rw [hW6]; exact ((H5.out.s21 _).s20 _).s22 _
    have k6 : Keeps [b] w5 W6 := by rw [hW6]; (repeat (first | with_reducible assumption | with_reducible exact Keeps.refl _ _ | with_reducible apply Keeps.alloc' | with_reducible apply Keeps.drew' | with_reducible apply Keeps.drewN' | (with_reducible apply Keeps.setCell'; rotate_left; · simp)))
    have hx6 := (k6.block _ (Array.getElem?_eq_some_iff.1 HX5.out).1 (by simpa using hne)).trans HX5.out
    have H6 := Lib.hid h6
    have K6 := Lib.hid (K5.out.trans k6)
    clear hW6 h6 k6 d4 hx5
    clear H5c20 H5f20 H5c21 H5f21 H5c22 H5f22
    have hx6c2 := cell_of_block hx6 2
    have hx6c3 := cell_of_block hx6 3
    have hx6c5 := cell_of_block hx6 5
    simp at hx6c2 hx6c3 hx6c5
    have hx6f2 := free_of_block hx6 2
    have hx6f3 := free_of_block hx6 3
    have hx6f5 := free_of_block hx6 5
    clear hx6
    have H6c1 := H6.out.c1
    have H6f1 := H6.out.fz 1
    have H6c23 := H6.out.c23
    have H6f23 := H6.out.fz 23
    have H6c24 := H6.out.c24
    have H6f24 := H6.out.fz 24
    have H6c25 := H6.out.c25
    have H6f25 := H6.out.fz 25
    try simp only at H6c1 H6c23 H6c24 H6c25
    go_region
    go_end0
    refine ⟨rfl, ?_, ?_⟩
    · rw [F.out]
      exact (((H6.out.s23 _).s24 _).s25 _).keep0 (Keeps.drew _ _)
    · refine K6.out.trans ?_
      (repeat (first | with_reducible assumption | with_reducible exact Keeps.refl _ _ | with_reducible apply Keeps.alloc' | with_reducible apply Keeps.drew' | with_reducible apply Keeps.drewN' | (with_reducible apply Keeps.setCell'; rotate_left; · simp)))

theorem append_nil {P : Program} {w : World} {ops : Array Oper} {rest : List Oper} {o : Oper} {a : Act} {Q : Exit → Act → World → Prop} (hg : o.guard = none) (s x : Operand) (t e : Nat)
    (ho : o.op = .call { callee := .builtin .append, args := #[s, x], argTypes := #[t, t] }) (ht : P.underlying t = some (.slice e)) (z : Value) (hi : (P.info? e).map (fun i => (i.zero, i.size, i.bytes)) = some (some z, 9, 72))
    (ad : Addr) (n c : Nat) (hn : n ≤ c) (hs : a.eval s = .slice (some ad) n c) (hx : a.eval x = .slice none 0 0)
    (h : wpList P ops Q rest (a.put o.dst (.slice (some ad) n c)) w) : wpList P ops Q (o :: rest) a w := by
  obtain ⟨i0, hi0, hz0, hz1, hz2⟩ := info_parts hi
  refine wpList_plain hg fun K' hK' => ?_
  have hrun : (Builtin.append_ #[t, t] o.type #[.slice (some ad) n c, .slice none 0 0]).run P w = .ok (.slice (some ad) n c) w := by
    simp [Builtin.append_, run_underlying ht, sizeOf, typeInfo, hi0, Builtin.lenOf, Builtin.firstCells, hn, storeCells]
  unfold Oper.wp execOp
  simp only [ho, resolve, invoke, builtin, Sem.run_bind, Sem.run_pure, Result.andThen_ok, List.map_toArray, List.map_cons, List.map_nil, hs, hx, hrun]
  exact hK' _ _ h

def HS.upp (s : HS) : HS := { s with una := (s.iss + 1) % 4294967296, set := false, st := 4 }
theorem HS.peer_ok {s : HS} (ok : s.Ok) {g : Seg} (gok : g.Ok) {m : Int} (hm : 1 ≤ m ∧ m ≤ 1460) : (s.peer g m).Ok :=
  ⟨ok.lp, ok.iss, ok.smss, ok.sscale, ok.room, ok.rto, ok.tries, ok.rem, ok.una, ok.nxt, gok.sq, by unfold U32 HS.peer; simp only; omega, by unfold U32 HS.peer; simp only; omega, gok.sq, gok.ak, ok.out, ok.inn, ok.read, ok.free, hm, by simp [HS.peer], by simp [HS.peer]⟩
theorem HS.upp_ok {s : HS} (ok : s.Ok) : s.upp.Ok :=
  ⟨ok.lp, ok.iss, ok.smss, ok.sscale, ok.room, ok.rto, ok.tries, ok.rem, by unfold U32 HS.upp; simp only; omega, ok.nxt, ok.irs, ok.next, ok.edge, ok.wl1, ok.wl2, ok.out, ok.inn, ok.read, ok.free, ok.mss, ok.scale, ok.scaled⟩

set_option maxRecDepth 100000 in
set_option maxHeartbeats 2000000 in
/-- At SynSent a SYN that acknowledges ours. -/
theorem hsynSent_plain {w : World} {b : Nat} {s : HS} (h : HostAt w b s) (ok : s.Ok) (hsk : s.ssack = false) (hcl : s.closed = false) (g : Seg) (gok : g.Ok) (A1 A2 : Option Addr) (n1 c1 n2 c2 : Nat) (hg : SegAt w g (.slice A1 n1 c1) (.slice A2 n2 c2)) (hsc : findO g.ops 3 1 = none) (m : Int)
    (hm : ((mssI (findO g.ops 2 2)).2 = true ∧ (mssI (findO g.ops 2 2)).1 = m ∧ 1 ≤ m ∧ m ≤ 1460) ∨ ((mssI (findO g.ops 2 2)).2 = false ∧ m = 536))
    (hfl : g.fl = 18) (hak : g.ak = (s.iss + 1) % 4294967296) (now : Int) (n0 : 0 ≤ now) (nn : now ≤ 4398046511104) (hst : (s.peer g m).upp.Still) :
    Calls Try.prog 34 #[.pointer (some ⟨b, 0, none⟩), segV g (.slice A1 n1 c1) (.slice A2 n2 c2), .int .u64 now] w fun e w' => ∃ v, e = .returned v ∧ OneSeg w' v (s.peer g m).upp.ack (.slice none 0 0) (.slice none 0 0) ∧ HostAt w' b ((s.peer g m).upp.settle now) ∧ Keeps [b] w w' := by
  have mb : 1 ≤ m ∧ m ≤ 1460 := by omega
  have okp := HS.peer_ok ok gok mb
  have oku := HS.upp_ok okp
  have HP := Lib.hid (fun W (hW : HostAt W b s) (hgW : SegAt W g (.slice A1 n1 c1) (.slice A2 n2 c2)) => hpeer_plain hW ok hsk g gok A1 A2 n1 c1 n2 c2 hgW hsc true m hm)
  have HU := Lib.hid (fun W (hW : HostAt W b (s.peer g m)) => hup_any hW okp.iss hcl)
  have HA := Lib.hid (fun W (hW : HostAt W b (s.peer g m).upp) => hacks_any hW oku)
  have HN := Lib.hid (fun W (hW : HostAt W b (s.peer g m).upp) => hsend_none hW oku now n0 nn (by simp [HS.upp]) (by simp [HS.upp]) hst)
  have H := Lib.hid h
  have G := Lib.hid hg
  have ba : (bits .and .u8 18 16 != 0) = true := by decide
  have br : (bits .and .u8 18 4 != 0) = false := by decide
  have bs : (bits .and .u8 18 2 == 0) = false := by decide
  have hi := ok.iss
  obtain ⟨i0, i1⟩ := hi
  have hlt := h.lt
  have c1 := h.c1
  have q1 := fun o => keeps_cell0 (o := o) c1
  clear h ok okp oku hm hst hsc hsk hcl hg c1
  obtain ⟨gsp, gdp, gsq, gak, gfl, gwn, gug, gops, gdata⟩ := g
  simp only at hfl hak
  subst hfl hak
  unfold segV at *
  simp only at *
  go_enter Try.func34, Try.ntmps34
  go_wp2_with fail
  go_quiet (fail)
  go_wp2_with fail
  go_quiet (fail)
  go_wp2_with fail
  refine (HP.out _ (H.out.keep0 ?_) (G.out.keep0 ?_)).mono ?_
  · (repeat (first | with_reducible assumption | with_reducible exact Keeps.refl _ _ | with_reducible apply Keeps.alloc' | with_reducible apply Keeps.drew' | with_reducible apply Keeps.drewN' | (with_reducible apply Keeps.setCell'; rotate_left; · simp)))
  · (repeat (first | with_reducible assumption | with_reducible exact Keeps.refl _ _ | with_reducible apply Keeps.alloc' | with_reducible apply Keeps.drew' | with_reducible apply Keeps.drewN' | (with_reducible apply Keeps.setCell'; rotate_left; · simp)))
  rintro e w1 ⟨rfl, h1, k1⟩
  have H1 := Lib.hid h1
  have K1 := Lib.hid (show Keeps [b] w w1 by
    refine Keeps.trans ?_ k1
    (repeat (first | with_reducible assumption | with_reducible exact Keeps.refl _ _ | with_reducible apply Keeps.alloc' | with_reducible apply Keeps.drew' | with_reducible apply Keeps.drewN' | (with_reducible apply Keeps.setCell'; rotate_left; · simp))))
  clear h1 k1 q1
  go_wp2_with fail
  refine (HU.out _ H1.out).mono ?_
  rintro e w2 ⟨rfl, h2, k2⟩
  have H2 := Lib.hid (show HostAt w2 b _ from h2)
  have K2 := Lib.hid (K1.out.trans k2)
  clear h2 k2
  go_wp2_with fail
  refine (HA.out _ H2.out).mono ?_
  rintro e w3 ⟨v, rfl, o3, k3⟩
  have H3 := Lib.hid (H2.out.keep0 k3)
  have K3 := Lib.hid (K2.out.trans (k3.mono (by simp)))
  have O3 := Lib.hid o3
  obtain ⟨go, co, rfl, hc1, _⟩ := o3
  clear k3
  go_wp2_with fail
  refine (HN.out _ H3.out).mono ?_
  rintro e w4 ⟨rfl, h4, k4⟩
  have H4 := Lib.hid h4
  have K4 := Lib.hid (K3.out.trans k4)
  have O4 := Lib.hid (O3.out.keep k4 H3.out.no)
  clear h4 k4
  go_wp2_with (at_builtin; refine append_nil rfl (.tmp 58) (.tmp 61) 32 30 rfl Try.underlying32 _ Try.infoSeg ⟨go, 0, none⟩ 1 co hc1 rfl rfl ?_)
  go_ret
  exact ⟨_, rfl, O4.out, H4.out, K4.out⟩
end Go.Proofs.Ytgaidloicmkdaaa
