/-
  The walks of package endp towards a server (14): opening, and Take, at a SYN-ACK with one option. Condition: an end's numbers are in the ranges of their kinds.
-/
import Derived.Test.YtakgohocimlagaaGreatEsM
import Derived.Test.YtakgohocimlagaaGreatEsQ
namespace Go.Proofs.YtakgohocimlagaaGreat
open Go.RowKit Go.Lib
set_option linter.unusedVariables false
set_option linter.unusedSimpArgs false

theorem PcsV.newrow2 {base : Nat} {w w' : World} {own own' : Option Nat} {l : List PC} {ps : List (Int × List UInt8)} {S : List Nat} (h : PcsV base w own l ps) (k : Keeps S w w') (hS : ∀ b ∈ S, b < base) (hn : ∀ j, own' = some j → w.heap.size ≤ j ∨ j < base) : PcsV base w' own' l ps :=
  ⟨h.1, fun i x p hx hp => by
    obtain ⟨h1, h2, h3, h4, h5⟩ := h.2 i x p hx hp
    refine ⟨h1, h2, h3, h4.keepF k (fun a ha hm => by have := hS _ hm; have := (h5 a ha).1; omega), fun a ha => ⟨(h5 a ha).1, fun he => ?_⟩⟩
    have hj := hn a.block he
    obtain ⟨gb, o, e2, hc⟩ := h4.get (by omega)
    have h6 := (h5 a ha).1
    rw [e2] at ha
    cases ha
    have := lt_of_cell (hc 0 _ (List.getElem?_eq_getElem h3))
    simp at hj this h6
    omega⟩
theorem mss_put {n : Int} (n0 : 0 ≤ n) (n1 : n ≤ 65535) : mssI (findO [(2, put16 n)] 2 2) = (n, true) := by
  have e : findO [(2, put16 n)] 2 2 = some (put16 n) := by
    unfold findO
    have : isOpt 2 2 (2, put16 n) = true := rfl
    simp [List.find?, this]
  rw [e]
  unfold put16 mssI
  simp only [Prod.mk.injEq, and_true]
  rw [b8_int (by omega) (by omega), b8_int (by omega) (by omega)]
  omega
theorem scale_put (n : Int) : scaleI (findO [(2, put16 n)] 3 1) = (0, false) := rfl
theorem sack_put (n : Int) : (findO [(2, put16 n)] 4 0).isSome = false := rfl
/-- its ACK as it lies -/
def ackC (s : ES) (X : RX) : Array Value := #[.int .u16 s.loc, .int .u16 s.rem, .int .u32 (addI X.una X.sent), .int .u32 ((s.irs + 1) % 4294967296), .int .u8 16, .int .u16 0, .int .u16 0, .slice none 0 0, .slice none 0 0]
set_option maxHeartbeats 2000000 in
theorem eacks_yes {w : World} {x r : Nat} {s : ES} {X : RX} (h : EndAt w x s) (hst : s.st = 2) (hi : s.inp = .pointer none) (ho : s.out = .pointer (some ⟨r, 0, none⟩)) (hx : RxAt w r X) (okx : X.Ok) :
    Calls Tryz.prog 63 #[.pointer (some ⟨x, 0, none⟩), .bool true] w fun e w' => ∃ g, e = .returned (.slice (some ⟨g, 0, none⟩) 1 1) ∧ w.heap.size ≤ g ∧ w'.heap[g]? = some (.cells (ackC s X) 39 (0, 0)) ∧ Keeps [] w w' := by
  have HA := Lib.hid (eackS_any h hst hi ho hx okx)
  unfold ES.ackS segV at HA
  obtain ⟨q, hq⟩ : ∃ q, addI X.una X.sent = q := ⟨_, rfl⟩
  obtain ⟨p, hp⟩ : ∃ p, (s.irs + 1) % 4294967296 = p := ⟨_, rfl⟩
  unfold ackC
  simp only [hq, hp] at HA ⊢
  clear h hst hi ho hx okx hq hp
  go_enter Tryz.func63, Tryz.ntmps63
  go_wp2_with fail
  refine HA.out.mono ?_
  rintro e w1 ⟨rfl, k1⟩
  have K1 := Lib.hid k1
  clear k1
  go_wp2_with fail
  go_ret
  exact ⟨w1.heap.size, rfl, K1.out.size, (MapKept.heap_alloc w1 _).1, K1.out.alloc' _⟩

theorem opE_no {w : World} {x : Nat} {iss : Int} {A : Option Addr} {n c : Nat} {al wt ct : Int} (h : EndAt w x (opE iss (.slice A n c) al wt ct)) : NoU8 w x := h.noU8 rfl ⟨_, _, _, rfl⟩ rfl ⟨_, _, _, rfl⟩
def fcW (w : World) (x : Nat) (iss irs M win : Int) : World := (((((w.setCell ⟨x, 9, none⟩ (.int .u32 iss)).setCell ⟨x, 10, none⟩ (.int .u32 irs)).setCell ⟨x, 11, none⟩ (.int .u16 M)).setCell ⟨x, 12, none⟩ (.int .i64 (-1))).setCell ⟨x, 13, none⟩ (.bool false)).setCell ⟨x, 14, none⟩ (.int .u32 win)
theorem fcW_ok {w : World} {x : Nat} {iss : Int} {wri : Value} {al wt ct : Int} (h : EndAt w x (opE iss wri al wt ct)) (irs M win : Int) : EndAt (fcW w x iss irs M win) x { opE iss wri al wt ct with irs := irs, mss := M, win := win } ∧ Keeps [x] w (fcW w x iss irs M win) :=
  ⟨(((((h.s9 iss).s10 irs).s11 M).s12 (-1)).s13 false).s14 win, (((((Keeps.setCell w ⟨x, 9, none⟩ _).trans (Keeps.setCell _ ⟨x, 10, none⟩ _)).trans (Keeps.setCell _ ⟨x, 11, none⟩ _)).trans (Keeps.setCell _ ⟨x, 12, none⟩ _)).trans (Keeps.setCell _ ⟨x, 13, none⟩ _)).trans (Keeps.setCell _ ⟨x, 14, none⟩ _)⟩
set_option maxRecDepth 100000 in
set_option maxHeartbeats 8000000 in
theorem eopening_ok {w : World} {x : Nat} {iss : Int} {A : Option Addr} {n c : Nat} {al wt ct : Int} {D : List UInt8} (h : EndAt w x (opE iss (.slice A n c) al wt ct)) (hb : BytesV w (.slice A n c) D) (hn : n ≤ 400) (hu : U32 iss)
    (sp dp irs : Int) (hir : U32 irs) (win M : Nat) (w0 : 1 ≤ win) (w1 : win ≤ 500) (mss : Int) (q0 : 0 ≤ mss) (q1 : mss ≤ 65535) (hM : min (max mss 88) 1460 = (M : Int)) (oA : Option Addr) (oN oC : Nat) (hop : OptsV w (.slice oA oN oC) [(2, put16 mss)]) (now : Int) (n0 : 0 ≤ now) (n1 : now ≤ 4398046511104) :
    Calls Tryz.prog 41 #[.pointer (some ⟨x, 0, none⟩), .agg #[.int .u16 sp, .int .u16 dp, .int .u32 irs, .int .u32 (addI iss 1), .int .u8 18, .int .u16 win, .int .u16 0, .slice oA oN oC, .slice none 0 0], .int .u64 now] w fun e w' => ∃ v l r A' c', e = .returned v ∧
      gsK.Own w' w.heap.size 39 v (⟨1, 2, addI iss 1, addI irs 1, 16, 0, 0, none, 0, 0, none, 0, 0⟩ :: l.map (toGS (onE iss irs M win r false (.slice A n c) al wt ct))) ∧
      PcsV w.heap.size w' v.ownBlock l (cutsR ((RX.new (addI iss 1) win 4 10).wrote A' D c' now).sendE ((RX.new (addI iss 1) win 4 10).wrote A' D c' now).una ((RX.new (addI iss 1) win 4 10).wrote A' D c' now).data M ((RX.new (addI iss 1) win 4 10).wrote A' D c' now).sent.toNat ((RX.new (addI iss 1) win 4 10).wrote A' D c' now).sendE) ∧
      RxAt w' r { (RX.new (addI iss 1) win 4 10).wrote A' D c' now with sent := max ((RX.new (addI iss 1) win 4 10).wrote A' D c' now).sent ((RX.new (addI iss 1) win 4 10).wrote A' D c' now).sendE } ∧ EndAt w' x (onE iss irs M win r false (.slice A n c) al wt ct) ∧ BytesV w' (.slice A n c) D ∧ w.heap.size ≤ r ∧ Keeps [x] w w' := by
  obtain ⟨ia, hia⟩ : ∃ ia, addI iss 1 = ia := ⟨_, rfl⟩
  have hwi : IntKind.u32.wrap (iss + 1) = ia := by rw [← hia]; exact IntKind.wrap_u32 _
  have hiu : U32 ia := by rw [← hia]; unfold addI; constructor <;> omega
  have hwn : IntKind.u32.wrap (win : Int) = win := by rw [IntKind.wrap_u32]; omega
  obtain ⟨rfl, hn2, hn3⟩ := hb.form
  rw [hia]
  have okN : (RX.new ia win 4 10).Ok := ⟨hiu, by simp [RX.new], by simp [RX.new], by simp only [RX.new]; omega, by simp only [RX.new]; omega, by simp only [RX.new]; omega, by simp only [RX.new]; omega⟩
  have OKN := Lib.hid okN
  have okW := fun A' c' => wrote_Ok okN A' D c' now (by simp only [RX.new, List.length_nil]; omega)
  have OKW := Lib.hid okW
  have CM := Lib.hid (fun W (k : Keeps [] w W) => mss_any W oA oN oC _ (hop.keep0 k))
  have CS := Lib.hid (fun W (k : Keeps [] w W) => scale_any W oA oN oC _ (hop.keep0 k))
  have CK := Lib.hid (fun W (k : Keeps [] w W) => sackOk_any W oA oN oC _ (hop.keep0 k))
  simp only [mss_put q0 q1] at CM
  simp only [scale_put] at CS
  simp only [sack_put] at CK
  have CX := Lib.hid (fun W => xnew_ok W ia win 4 10 (by omega) (by omega) (by decide) (by decide) (by decide) (by decide))
  have HM := Lib.hid (show 1 ≤ M ∧ M ≤ 1460 by omega)
  have HN := Lib.hid (And.intro n0 n1)
  have HD := Lib.hid (And.intro hn hb)
  have H := Lib.hid h
  have f16 : bits .and .u8 18 16 = 16 := by decide
  have f4 : bits .and .u8 18 4 = 0 := by decide
  have f2 : bits .and .u8 18 2 = 2 := by decide
  have c2 := h.c2
  have c3 := h.c3
  have c4 := h.c4
  have c5 := h.c5
  have c7 := h.c7
  have c8 := h.c8
  simp only [opE] at c2 c3 c4 c5 c7 c8
  have hlt := h.lt
  clear h hb hop hia hiu okN okW hn n0 n1 w0 w1 q0 q1 hu hir hn2 hn3
  go_enter Tryz.func41, Tryz.ntmps41
  go_upto_region 1 with fail
  refine wp_gn (fun W0 hW0 => ?_)
  have k0 : Keeps [] w W0 := by rw [hW0]; exact Keeps.alloc _ _ _
  have hb0 : W0.heap[w.heap.size]? = some (.cells #[.int .u16 sp, .int .u16 dp, .int .u32 irs, .int .u32 ia, .int .u8 18, .int .u16 win, .int .u16 0, .slice oA oN oC, .slice none 0 0] 39 (0, 0)) := by rw [hW0]; exact (MapKept.heap_alloc w _).1
  have HB0 := Lib.hid hb0
  have K0 := Lib.hid k0
  have b3 := cell_of_block hb0 3
  have b4 := cell_of_block hb0 4
  simp at b3 b4
  have d2 := cell_keeps k0 c2 (by simp)
  clear hW0 k0 hb0 c2 c3 c4 c5 c7 c8
  go_quiet (fail)
  go_upto_region 2 with fail
  go_quiet (fail)
  go_upto_region 14 with fail
  refine wp_gn (fun W1 hW1 => ?_)
  have kq : Keeps [] W0 W1 := by rw [hW1]; (repeat (first | with_reducible assumption | with_reducible exact Keeps.refl _ _ | with_reducible apply Keeps.alloc' | with_reducible apply Keeps.drew' | with_reducible apply Keeps.drewN' | (with_reducible apply Keeps.setCell'; rotate_left; · simp)))
  have K1 := Lib.hid (K0.out.trans kq)
  have hb1 := (kq.block _ (lt_of_block HB0.out) (by simp)).trans HB0.out
  have HB1 := Lib.hid hb1
  have b7 := cell_of_block hb1 7
  simp at b7
  clear hW1 kq b3 b4 d2 hb1
  go_wp2_with fail
  refine (CM.out _ K1.out).mono ?_
  rintro e w2 ⟨rfl, k2⟩
  have hb2 := (k2.block _ (lt_of_block HB1.out) (by simp)).trans HB1.out
  have HB2 := Lib.hid hb2
  have K2 := Lib.hid (K1.out.trans k2)
  have b7 := cell_of_block hb2 7
  simp at b7
  clear k2 hb2
  go_wp2_with fail
  refine (CS.out _ K2.out).mono ?_
  rintro e w3 ⟨rfl, k3⟩
  have hb3 := (k3.block _ (lt_of_block HB2.out) (by simp)).trans HB2.out
  have HB3 := Lib.hid hb3
  have K3 := Lib.hid (K2.out.trans k3)
  have H3 := Lib.hid (H.out.keep0 K3.out)
  have c4 := H3.out.c4
  simp only [opE] at c4
  clear k3 b7
  go_upto_region 20 with fail
  have b2 := cell_of_block hb3 2
  have b5 := cell_of_block hb3 5
  have b7 := cell_of_block hb3 7
  simp at b2 b5 b7
  have d2 := H3.out.c2
  have d3 := H3.out.c3
  have d5 := H3.out.c5
  simp only [opE] at d2 d3 d5
  have hxb : x ≠ w.heap.size := by omega
  clear hb3 c4
  go_region_held3 (fun w' => w'.cell? ⟨x, 2, none⟩ = some (.int .u32 iss) ∧ w'.cell? ⟨x, 3, none⟩ = some (.int .u16 1460) ∧ w'.cell? ⟨x, 5, none⟩ = some (.bool true) ∧ w'.cell? ⟨w.heap.size, 2, none⟩ = some (.int .u32 irs) ∧ w'.cell? ⟨w.heap.size, 5, none⟩ = some (.int .u16 win) ∧ w'.cell? ⟨w.heap.size, 7, none⟩ = some (.slice oA oN oC)) (first | (refine (fun kx => ⟨cell_keeps kx d2 (by simp), cell_keeps kx d3 (by simp), cell_keeps kx d5 (by simp), cell_keeps kx b2 (by simp), cell_keeps kx b5 (by simp), cell_keeps kx b7 (by simp)⟩ : Keeps [] w3 _ → _) ?_; (repeat (first | with_reducible assumption | with_reducible exact Keeps.refl _ _ | with_reducible apply Keeps.alloc' | with_reducible apply Keeps.drew' | with_reducible apply Keeps.drewN' | (with_reducible apply Keeps.setCell'; rotate_left; · simp))); done) | exact (show (fcW w5 x iss irs M win).cell? ⟨x, 2, none⟩ = some (.int .u32 iss) ∧ (fcW w5 x iss irs M win).cell? ⟨x, 3, none⟩ = some (.int .u16 1460) ∧ (fcW w5 x iss irs M win).cell? ⟨x, 5, none⟩ = some (.bool true) ∧ (fcW w5 x iss irs M win).cell? ⟨w.heap.size, 2, none⟩ = some (.int .u32 irs) ∧ (fcW w5 x iss irs M win).cell? ⟨w.heap.size, 5, none⟩ = some (.int .u16 win) ∧ (fcW w5 x iss irs M win).cell? ⟨w.heap.size, 7, none⟩ = some (.slice oA oN oC) from fc5)) (first | (go_at_call 72; (with_reducible refine (CK.out _ (K3.out.trans (by (repeat (first | with_reducible assumption | with_reducible exact Keeps.refl _ _ | with_reducible apply Keeps.alloc' | with_reducible apply Keeps.drew' | with_reducible apply Keeps.drewN' | (with_reducible apply Keeps.setCell'; rotate_left; · simp)))))).mono ?_); rintro e w5 ⟨rfl, k5⟩; have kk5 : Keeps [] w3 w5 := Keeps.trans (by (repeat (first | with_reducible assumption | with_reducible exact Keeps.refl _ _ | with_reducible apply Keeps.alloc' | with_reducible apply Keeps.drew' | with_reducible apply Keeps.drewN' | (with_reducible apply Keeps.setCell'; rotate_left; · simp)))) k5; have h5 := H3.out.keep0 kk5; have z9 := h5.fz 9; have z10 := h5.fz 10; have z11 := h5.fz 11; have z12 := h5.fz 12; have z13 := h5.fz 13; have z14 := h5.fz 14; have z15 := h5.fz 15; have c9 := h5.c9; have c10 := h5.c10; have c11 := h5.c11; have c12 := h5.c12; have c13 := h5.c13; have c14 := h5.c14; have c15 := h5.c15; have fcX := fcW_ok h5 irs M win; have fc5 := And.intro fcX.1.c2 (And.intro fcX.1.c3 (And.intro fcX.1.c5 (And.intro (cell_keeps fcX.2 (cell_keeps kk5 b2 (by simp)) (by simp; omega)) (And.intro (cell_keeps fcX.2 (cell_keeps kk5 b5 (by simp)) (by simp; omega)) (cell_keeps fcX.2 (cell_keeps kk5 b7 (by simp)) (by simp; omega)))))); clear k5 fcX) | fail)
  all_goals
    have H5 := Lib.hid h5
    have K5 := Lib.hid (K3.out.trans kk5)
    have hb5 := (kk5.block _ (lt_of_block HB3.out) (by simp)).trans HB3.out
    have HB5 := Lib.hid hb5
    clear kk5 h5 d2 d3 d5 b2 b5 b7 fc5 hb5
    go_upto_region 22 with fail
    refine wp_gn (fun W6 hW6 => ?_)
    have h6 : EndAt W6 x { opE iss (.slice A D.length c) al wt ct with irs := irs, mss := M, win := win, st := 2 } := by rw [hW6]; exact (fcW_ok H5.out irs M win).1.s15 2
    have k6 : Keeps [x] w5 W6 := by rw [hW6]; exact (fcW_ok H5.out irs M win).2.trans (Keeps.setCell _ ⟨x, 15, none⟩ _)
    have H6 := Lib.hid h6
    have K6 := Lib.hid ((K5.out.mono (T := [x]) (by simp)).trans k6)
    have hb6 := (k6.block _ (lt_of_block HB5.out) (by simp; omega)).trans HB5.out
    have B6 := Lib.hid ((HD.out.2.keep0 K5.out).keep k6 (opE_no H5.out))
    have b5 := cell_of_block hb6 5
    simp at b5
    have d2 := h6.c2
    have d7 := h6.c7
    have d8 := h6.c8
    simp only [opE] at d2 d7 d8
    clear hW6 k6 h6 hb6 c9 c10 c11 c12 c13 c14 c15 z9 z10 z11 z12 z13 z14 z15
    go_region_held3 (fun w' => w'.cell? ⟨x, 2, none⟩ = some (.int .u32 iss) ∧ w'.cell? ⟨x, 7, none⟩ = some (.int .u64 4) ∧ w'.cell? ⟨x, 8, none⟩ = some (.int .i64 10) ∧ w'.cell? ⟨w.heap.size, 5, none⟩ = some (.int .u16 win)) (first | (refine (fun kx => ⟨cell_keeps kx d2 (by simp), cell_keeps kx d7 (by simp), cell_keeps kx d8 (by simp), cell_keeps kx b5 (by simp)⟩ : Keeps [] W6 _ → _) ?_; (repeat (first | with_reducible assumption | with_reducible exact Keeps.refl _ _ | with_reducible apply Keeps.alloc' | with_reducible apply Keeps.drew' | with_reducible apply Keeps.drewN' | (with_reducible apply Keeps.setCell'; rotate_left; · simp))); done) | exact fc7) (first | (go_at_call 73; (with_reducible refine (CX.out _).mono ?_); rintro e w7 ⟨rfl, hx7, k7⟩; have hx7 : RxAt w7 W6.heap.size (RX.new ia win 4 10) := hx7; have kk7 : Keeps [] W6 w7 := Keeps.trans (by (repeat (first | with_reducible assumption | with_reducible exact Keeps.refl _ _ | with_reducible apply Keeps.alloc' | with_reducible apply Keeps.drew' | with_reducible apply Keeps.drewN' | (with_reducible apply Keeps.setCell'; rotate_left; · simp)))) k7; have h7 := H6.out.keep0 kk7; have z19 := h7.fz 19; have c19 := h7.c19; have e7 := h7.s19 (.pointer (some ⟨W6.heap.size, 0, none⟩)); have fc7 : (w7.setCell ⟨x, 19, none⟩ (.pointer (some ⟨W6.heap.size, 0, none⟩))).cell? ⟨x, 2, none⟩ = some (.int .u32 iss) ∧ (w7.setCell ⟨x, 19, none⟩ (.pointer (some ⟨W6.heap.size, 0, none⟩))).cell? ⟨x, 7, none⟩ = some (.int .u64 4) ∧ (w7.setCell ⟨x, 19, none⟩ (.pointer (some ⟨W6.heap.size, 0, none⟩))).cell? ⟨x, 8, none⟩ = some (.int .i64 10) ∧ (w7.setCell ⟨x, 19, none⟩ (.pointer (some ⟨W6.heap.size, 0, none⟩))).cell? ⟨w.heap.size, 5, none⟩ = some (.int .u16 win) := ⟨e7.c2, e7.c7, e7.c8, cell_keeps (Keeps.setCell w7 ⟨x, 19, none⟩ _) (cell_keeps kk7 b5 (by simp)) (by simp; omega)⟩; clear k7) | fail)
    have no7 : NoU8 w7 x := h7.noU8 rfl ⟨_, _, _, rfl⟩ rfl ⟨_, _, _, rfl⟩
    have hx6 : x < W6.heap.size := H6.out.lt
    have hw6 : w.heap.size ≤ W6.heap.size := K6.out.size
    have kx7 := kk7.mono (T := [x]) (by simp)
    have B7 := Lib.hid (B6.out.keep0 kk7)
    generalize hr : W6.heap.size = r at *
    have E7 := Lib.hid e7
    have HX7 := Lib.hid hx7
    have K7 := Lib.hid (K6.out.trans kx7)
    have N7 := Lib.hid no7
    clear kk7 kx7 h7 hx7 e7 fc7 no7 d2 d7 d8 b5
    go_upto_region 23 with fail
    refine wp_gn (fun W8 hW8 => ?_)
    have h8 : EndAt W8 x (onE iss irs M win r false (.slice A D.length c) al wt ct) := by rw [hW8]; exact E7.out
    have kS : Keeps [x] w7 W8 := by rw [hW8]; exact Keeps.setCell w7 ⟨x, 19, none⟩ _
    have hx8 : RxAt W8 r (RX.new ia win 4 10) := HX7.out.other kS (by omega) N7.out
    have H8 := Lib.hid h8
    have HX8 := Lib.hid hx8
    have B8 := Lib.hid (B7.out.keep kS N7.out)
    have K8 := Lib.hid (K7.out.trans kS)
    have d19 := h8.c19
    have d20 := h8.c20
    simp only [onE] at d19 d20
    have hxs : x ∉ [r] := by simp; omega
    clear hW8 h8 hx8 kS c19 z19
    go_region_held3 (fun w' => w'.cell? ⟨x, 19, none⟩ = some (.pointer (some ⟨r, 0, none⟩)) ∧ w'.cell? ⟨x, 20, none⟩ = some (.slice A D.length c)) ((refine (fun kx => ⟨cell_keeps kx d19 hxs, cell_keeps kx d20 hxs⟩ : Keeps [r] W8 _ → _) ?_; (repeat (first | with_reducible assumption | with_reducible exact Keeps.refl _ _ | with_reducible apply Keeps.alloc' | with_reducible apply Keeps.drew' | with_reducible apply Keeps.drewN' | (with_reducible apply Keeps.setCell'; rotate_left; · simp))))) (first | (go_at_call 49; (with_reducible refine (xwrite_ok (HX8.out.keep0 (by (repeat (first | with_reducible assumption | with_reducible exact Keeps.refl _ _ | with_reducible apply Keeps.alloc' | with_reducible apply Keeps.drew' | with_reducible apply Keeps.drewN' | (with_reducible apply Keeps.setCell'; rotate_left; · simp))))) OKN.out A D.length c D (B8.out.keep0 (by (repeat (first | with_reducible assumption | with_reducible exact Keeps.refl _ _ | with_reducible apply Keeps.alloc' | with_reducible apply Keeps.drew' | with_reducible apply Keeps.drewN' | (with_reducible apply Keeps.setCell'; rotate_left; · simp))))) (by have := HD.out.1; simp only [RX.new, List.length_nil]; omega) now HN.out.1 HN.out.2).mono ?_); rintro e w9 ⟨rfl, ⟨A9, c9, hx9, fa9⟩, k9⟩; have kk9 : Keeps [r] W8 w9 := Keeps.trans (by (repeat (first | with_reducible assumption | with_reducible exact Keeps.refl _ _ | with_reducible apply Keeps.alloc' | with_reducible apply Keeps.drew' | with_reducible apply Keeps.drewN' | (with_reducible apply Keeps.setCell'; rotate_left; · simp)))) k9; clear k9) | fail)
    have H9 := Lib.hid (H8.out.keep kk9 hxs)
    have HX9 := Lib.hid hx9
    have OK9 := Lib.hid (OKW.out A9 c9)
    have K9 := Lib.hid (((K8.out.mono (T := [x, r]) (by simp)).trans (kk9.mono (by simp))).fresh (T := [x]) (by intro j hj hlt; simp at hj; rcases hj with h | h <;> simp <;> omega))
    have hxr : x ≠ r := by omega
    have EE := Lib.hid (show ((RX.new ia win 4 10).wrote A9 D c9 now).una = ia ∧ ((RX.new ia win 4 10).wrote A9 D c9 now).sent = 0 by unfold RX.wrote RX.anew RX.new; split <;> exact ⟨rfl, rfl⟩)
    clear kk9 hx9 fa9 d19 d20
    go_wp2_with fail
    refine (eacks_yes H9.out rfl rfl rfl HX9.out OK9.out).mono ?_
    rintro e w10 ⟨g10, rfl, hg10, hb10, k10⟩
    have hg10l := lt_of_block hb10
    have own10 : gsK.Own w10 w.heap.size 39 (.slice (some ⟨g10, 0, none⟩) 1 1) [⟨1, 2, ia, addI irs 1, 16, 0, 0, none, 0, 0, none, 0, 0⟩] := own_lower' (EK.own_block hb10 (by
      unfold ackC
      rw [EE.out.1, EE.out.2, show addI ia 0 = ia by have := OKN.out.una; simp only [RX.new] at this; obtain ⟨u0, u1⟩ := this; unfold addI; omega]
      rfl) (by simp [maxLen])) (Nat.le_trans K9.out.size hg10)
    have OWN10 := Lib.hid own10
    have H10 := Lib.hid (H9.out.keep0 k10)
    have HX10 := Lib.hid (HX9.out.keep0 k10)
    have K10 := Lib.hid k10
    clear k10 own10 hb10
    go_wp2_with fail
    refine (esend_ok H10.out rfl rfl rfl HX10.out OK9.out M rfl HM.out.1 HM.out.2 hxr).mono ?_
    rintro e w11 ⟨v11, l11, rfl, own11, pcs11, rx11, en11, k11⟩
    obtain ⟨A11, c11, rfl, at11, hlc, hcm, hA11⟩ := EK.Own.at_ (own_gs own11)
    have hAn : A11 = none → l11.map (toGS (onE iss irs M win r false (.slice A D.length c) al wt ct)) = [] := fun h => by
      rcases at11 with h0 | ⟨b, o, h1, _⟩
      · exact h0
      · rw [h1] at h; cases h
    have hll : [(⟨1, 2, ia, addI irs 1, 16, 0, 0, none, 0, 0, none, 0, 0⟩ : GS)].length + (l11.map (toGS (onE iss irs M win r false (.slice A D.length c) al wt ct))).length ≤ 100000 := by
      have h1 := pcs11.1
      have h2 := cutsR_len (una := ((RX.new ia win 4 10).wrote A9 D c9 now).una) (l := ((RX.new ia win 4 10).wrote A9 D c9 now).data) (mss := M) (e := ((RX.new ia win 4 10).wrote A9 D c9 now).sendE) (k := ((RX.new ia win 4 10).wrote A9 D c9 now).sendE) (f := ((RX.new ia win 4 10).wrote A9 D c9 now).sent.toNat)
      have h3 := OK9.out.len
      have h4 : ((RX.new ia win 4 10).wrote A9 D c9 now).sendE ≤ ((RX.new ia win 4 10).wrote A9 D c9 now).data.length := by unfold RX.sendE; omega
      rw [List.length_map]
      simp only [List.length_singleton]
      omega
    have P11 := Lib.hid pcs11
    have R11 := Lib.hid rx11
    have E11 := Lib.hid en11
    have K11 := Lib.hid k11
    have AT := Lib.hid at11
    have hr9 := HX9.out.lt
    have hx9l := H9.out.lt
    have O11 := Lib.hid (show gsK.Own w11 w.heap.size 39 (.slice (some ⟨g10, 0, none⟩) 1 1) [⟨1, 2, ia, addI irs 1, 16, 0, 0, none, 0, 0, none, 0, 0⟩] from own_keepsS OWN10.out k11 (fun j hj => by cases hj; simp; omega))
    have hsz : w.heap.size ≤ w11.heap.size := by have := K9.out.size; have := K10.out.size; have := k11.size; omega
    clear pcs11 rx11 en11 k11 at11 own11 hA11
    go_wp2_with (at_builtin; refine wpList_append_E gsK rfl (.tmp 159) (.tmp 161) 23 39 w.heap.size rfl Tryz.underlying23 Tryz.infoSeg (by rfl) (by decide) (.slice (some ⟨g10, 0, none⟩) 1 1) [⟨1, 2, ia, addI irs 1, 16, 0, 0, none, 0, 0, none, 0, 0⟩] rfl O11.out A11 c11 (l11.map (toGS (onE iss irs M win r false (.slice A D.length c) al wt ct))) (by first | rfl | (rw [List.length_map]; rfl)) AT.out hAn hll hsz ?_; intro v12 w12 o12 g12 a12)
    have k12 : Keeps [g10] w11 w12 := Keeps.grown g12
    have k9 : Keeps [r] w9 w12 := (((K10.out.mono (T := [r, g10]) (by simp)).trans (K11.out.mono (by simp))).trans (k12.mono (by simp))).fresh (T := [r]) (by intro j hj hlt; simp at hj; rcases hj with h | h <;> simp <;> omega)
    have kF : Keeps [x] w w12 := ((K9.out.mono (T := [x, r]) (by simp)).trans (k9.mono (by simp))).fresh (T := [x]) (by intro j hj hlt; simp at hj; rcases hj with h | h <;> simp <;> omega)
    have hd12 := HX9.out.data.keep k9 HX9.out.no
    have h12 := (k12.block r (by have := K10.out.size; have := K11.out.size; omega) (by simp; omega)).trans R11.out.head
    have en12 := E11.out.keep k12 (by simp; omega)
    have pc12 := (P11.out.newrow2 (own' := v12.ownBlock) k12 (by intro b hb; simp at hb; omega) (fun j hj => by
      rcases a12 with h0 | h0
      · rw [h0] at hj; cases hj; exact .inr hg10l
      · rw [h0] at hj; cases hj; exact .inl (Nat.le_refl _))).lower (b0 := w.heap.size) (by omega)
    have R12 := Lib.hid (And.intro o12 (And.intro pc12 (And.intro (RxAt.mk h12 hd12) (And.intro en12 (And.intro (HD.out.2.keep kF (opE_no H.out)) kF)))))
    clear k12 k9 kF hd12 h12 en12 pc12 g12 a12 o12
    go_wp2_with fail
    refine bodyPost_ret (v := v12) (by simp [results, Tryz.results41, go_sem]) rfl ⟨v12, l11, r, A9, c9, rfl, R12.out.1, R12.out.2.1, R12.out.2.2.1, R12.out.2.2.2.1, R12.out.2.2.2.2.1, hw6, R12.out.2.2.2.2.2⟩

set_option maxRecDepth 100000 in
set_option maxHeartbeats 4000000 in
theorem etake_opening {w : World} {x : Nat} {iss : Int} {A : Option Addr} {n c : Nat} {al wt ct : Int} {D : List UInt8} (h : EndAt w x (opE iss (.slice A n c) al wt ct)) (hb : BytesV w (.slice A n c) D) (hn : n ≤ 400) (hu : U32 iss)
    (sp dp irs : Int) (hir : U32 irs) (win M : Nat) (w0 : 1 ≤ win) (w1 : win ≤ 500) (mss : Int) (q0 : 0 ≤ mss) (q1 : mss ≤ 65535) (hM : min (max mss 88) 1460 = (M : Int)) (oA : Option Addr) (oN oC : Nat) (hop : OptsV w (.slice oA oN oC) [(2, put16 mss)]) (now : Int) (n0 : 0 ≤ now) (n1 : now ≤ 4398046511104) :
    Calls Tryz.prog 12 #[.pointer (some ⟨x, 0, none⟩), .agg #[.int .u16 sp, .int .u16 dp, .int .u32 irs, .int .u32 (addI iss 1), .int .u8 18, .int .u16 win, .int .u16 0, .slice oA oN oC, .slice none 0 0], .int .u64 now] w fun e w' => ∃ v l r A' c', e = .returned (.tuple #[v, .int .i64 0]) ∧
      gsK.Own w' w.heap.size 39 v (⟨1, 2, addI iss 1, addI irs 1, 16, 0, 0, none, 0, 0, none, 0, 0⟩ :: l.map (toGS (onE iss irs M win r false (.slice A n c) al wt ct))) ∧
      PcsV w.heap.size w' v.ownBlock l (cutsR ((RX.new (addI iss 1) win 4 10).wrote A' D c' now).sendE ((RX.new (addI iss 1) win 4 10).wrote A' D c' now).una ((RX.new (addI iss 1) win 4 10).wrote A' D c' now).data M ((RX.new (addI iss 1) win 4 10).wrote A' D c' now).sent.toNat ((RX.new (addI iss 1) win 4 10).wrote A' D c' now).sendE) ∧
      RxAt w' r { (RX.new (addI iss 1) win 4 10).wrote A' D c' now with sent := max ((RX.new (addI iss 1) win 4 10).wrote A' D c' now).sent ((RX.new (addI iss 1) win 4 10).wrote A' D c' now).sendE } ∧ EndAt w' x (onE iss irs M win r false (.slice A n c) al wt ct) ∧ BytesV w' (.slice A n c) D ∧ w.heap.size ≤ r ∧ Keeps [x] w w' := by
  have CS := Lib.hid (fun W (k : Keeps [] w W) => eopening_ok (h.keep0 k) (hb.keep0 k) hn hu sp dp irs hir win M w0 w1 mss q0 q1 hM oA oN oC (hop.keep0 k) now n0 n1)
  have HE := Lib.hid (fun (W : World) (k : Keeps [] w W) => h.keep0 k)
  have hlt := h.lt
  have hst1 : 1 ≤ (opE iss (.slice A n c) al wt ct).st := by simp [opE]
  have hst3 : (opE iss (.slice A n c) al wt ct).st ≠ 3 := by simp [opE]
  have hst4 : (opE iss (.slice A n c) al wt ct).st ≠ 4 := by simp [opE]
  obtain ⟨ia, hia⟩ : ∃ ia, addI iss 1 = ia := ⟨_, rfl⟩
  rw [hia] at CS ⊢
  clear h hb hn hu hir w0 w1 q0 q1 hM hop n0 n1 hia
  go_enter Tryz.func12, Tryz.ntmps12
  go_wp2_with fail
  refine (enone_no (HE.out _ (Keeps.alloc _ _ _)) hst1).mono ?_
  rintro e w1 ⟨rfl, rfl⟩
  go_wp2_with fail
  refine (eover_no (HE.out _ (Keeps.alloc _ _ _)) hst3 hst4).mono ?_
  rintro e w1 ⟨rfl, rfl⟩
  go_upto_region 5 with fail
  refine wp_gn (fun W1 hW1 => ?_)
  have k1 : Keeps [] w W1 := by rw [hW1]; exact Keeps.alloc _ _ _
  have hb : W1.heap[w.heap.size]? = some (.cells #[.int .u16 sp, .int .u16 dp, .int .u32 irs, .int .u32 ia, .int .u8 18, .int .u16 win, .int .u16 0, .slice oA oN oC, .slice none 0 0] 39 (0, 0)) := by rw [hW1]; exact (MapKept.heap_alloc w _).1
  have c16 := (HE.out W1 k1).c16
  have c15 := (HE.out W1 k1).c15
  simp only [opE] at c15 c16
  have hbc0 := cell_of_block hb 0
  have hbc1 := cell_of_block hb 1
  have hbc2 := cell_of_block hb 2
  have hbc3 := cell_of_block hb 3
  have hbc4 := cell_of_block hb 4
  have hbc5 := cell_of_block hb 5
  have hbc6 := cell_of_block hb 6
  have hbc7 := cell_of_block hb 7
  have hbc8 := cell_of_block hb 8
  simp at hbc0 hbc1 hbc2 hbc3 hbc4 hbc5 hbc6 hbc7 hbc8
  have hbf0 := free_of_block hb 0
  have hbf1 := free_of_block hb 1
  have hbf2 := free_of_block hb 2
  have hbf3 := free_of_block hb 3
  have hbf4 := free_of_block hb 4
  have hbf5 := free_of_block hb 5
  have hbf6 := free_of_block hb 6
  have hbf7 := free_of_block hb 7
  have hbf8 := free_of_block hb 8
  have K1 := Lib.hid k1
  clear hb k1 hW1
  go_wp2_with fail
  refine (CS.out W1 K1.out).mono ?_
  rintro e w2 ⟨v, l, r, A', c', rfl, own, pcs, rx, en, bb, hr, kk⟩
  have R := Lib.hid (And.intro own (And.intro pcs (And.intro rx (And.intro en (And.intro bb (And.intro hr kk))))))
  clear own pcs rx en bb hr kk
  go_wp2_with fail
  refine bodyPost_ret (v := .tuple #[v, .int .i64 0]) (by simp [results, Tryz.results12, go_sem]) rfl ⟨v, l, r, A', c', rfl, own_lower' R.out.1 K1.out.size, R.out.2.1.lower K1.out.size, R.out.2.2.1, R.out.2.2.2.1, R.out.2.2.2.2.1, Nat.le_trans K1.out.size R.out.2.2.2.2.2.1, (K1.out.mono (by simp)).trans R.out.2.2.2.2.2.2⟩
end Go.Proofs.YtakgohocimlagaaGreat
