/-
  The walks of package endp (4): a client's segment that is taken. Condition: the numbers are in the ranges of their kinds.
-/
import Derived.Test.YtakgohocimlagaaGreatEpD
namespace Go.Proofs.YtakgohocimlagaaGreat
open Go.RowKit
set_option linter.unusedVariables false
set_option linter.unusedSimpArgs false

/-- what is told behind a segment that was taken; whether the client's stream has ended -/
def toldC (g : Seg) : Bool := has g.fl 1 || decide (0 < g.data.length)
def endsC (st2 : BS) (g : Seg) : Bool := has g.fl 1 && decide (st2.next = addI g.sq g.data.length)

set_option maxRecDepth 100000 in
set_option maxHeartbeats 4000000 in
theorem client_take {w : World} {B x b mb : Nat} {s : ES} {st : BS} {tl : List UInt8} (h : Cli w B x b mb s st tl) (g : Seg) (og : g.Ok) (Ao Ad : Option Addr) (no co cd : Nat) (h2 : has g.fl 2 = false) (h4 : has g.fl 4 = false) (h16 : has g.fl 16 = true) (hk : g.ak = (s.iss + 1) % 4294967296) (ha : acceptI g.sq (lenI g) st.next (st.room - st.taken) = true) (hd : BytesV w (.slice Ad g.data.length cd) g.data) (hn : g.data.length ≤ 1048576) :
    Calls Tryz.prog 40 #[.pointer (some ⟨x, 0, none⟩), segV g (.slice Ao no co) (.slice Ad g.data.length cd)] w fun e w' => ∃ v s' mb', e = .returned v ∧ Cli w' B x b mb' s' (st.put g.sq g.data).take (tl ++ (st.put g.sq g.data).out) ∧ s' = { s with win := winI g.wn s.scl, tak := s'.tak, ended := s.ended || endsC (st.put g.sq g.data).take g } ∧ Told w.heap.size w' v (toldC g) (s'.ackC (st.put g.sq g.data).take) ∧ Keeps (footC x b mb s) w w' ∧ ∀ j ∈ footC x b mb' s', j ∈ footC x b mb s ∨ w.heap.size ≤ j := by
  have c16 := h.e.c16
  rw [h.inp] at c16
  have hlt := h.e.lt
  have hr : 0 ≤ st.room - st.taken ∧ st.room - st.taken ≤ 16384 := by have := h.okb.t0; have := h.okb.tr; have := h.okb.r; omega
  have hw : IntKind.u32.wrap (st.room - st.taken) = st.room - st.taken := by rw [IntKind.wrap_u32]; omega
  have H := Lib.hid h
  unfold has at h2 h4 h16
  have h16' : (bits BinOp.and IntKind.u8 g.fl 16 == 0) = false := by simpa [bne] using h16
  have hwi : IntKind.u32.wrap (s.iss + 1) = (s.iss + 1) % 4294967296 := IntKind.wrap_u32 _
  have hk' : (g.ak == (s.iss + 1) % 4294967296) = true := by simpa using hk
  have hk2 : (g.ak != (s.iss + 1) % 4294967296) = false := by simpa using hk
  have og' := og
  have hlw : IntKind.i64.wrap (lenI g) = lenI g := IntWalk.i64_in _ (by have := lenI_bd og; omega)
  have hac : ∀ W, Calls Tryz.prog 65 #[.int .u32 g.sq, .int .i64 (lenI g), .int .u32 st.next, .int .u32 (st.room - st.taken)] W fun e w' => e = .returned (.bool true) ∧ Keeps [] W w' := by
    intro W
    have := accept_any W g.sq (lenI g) st.next (st.room - st.taken) og.sq st.next_bd (lenI_bd og).1 (lenI_bd og).2
    rw [ha] at this
    exact this
  clear hk ha
  have HD := Lib.hid hd
  have HN := Lib.hid hn
  clear hd hn
  clear h
  unfold segV
  go_enter Tryz.func40, Tryz.ntmps40
  go_wp2_with fail
  refine wp_gn (fun W0 hW0 => ?_)
  have k0 : Keeps [] w W0 := by rw [hW0]; exact (Keeps.refl _ _).alloc' _
  have hx : W0.heap[w.heap.size]? = some (.cells #[.int .u16 g.sp, .int .u16 g.dp, .int .u32 g.sq, .int .u32 g.ak, .int .u8 g.fl, .int .u16 g.wn, .int .u16 g.ug, .slice Ao no co, .slice Ad g.data.length cd] 39 (0, 0)) := by rw [hW0]; exact (MapKept.heap_alloc w _).1
  have q16 := cell_keeps k0 c16 (by simp)
  have HB := Lib.hid (H.out.bf.keep k0 (by simp) (by simp))
  have K0 := Lib.hid k0
  have HX := Lib.hid hx
  clear hW0 hx k0 c16
  go_region_held3 (fun w' => w'.cell? ⟨x, 16, none⟩ = some (.pointer (some ⟨b, 0, none⟩))) (go_keep)
    (first
      | (go_at_call 36; refine (bnext_any (HB.out.keep (Keeps.drew [] _) (by simp) (by simp)) H.out.okb).mono ?_; rintro e w3 ⟨rfl, rfl⟩)
      | (go_at_call 35; refine (broom_any (HB.out.keep (Keeps.drew [] _) (by simp) (by simp)) H.out.okb).mono ?_; rintro e w3 ⟨rfl, nd, rfl⟩))
  go_upto_region 2 with fail
  refine wp_gn (fun W1 hW1 => ?_)
  have k1 : Keeps [] W0 W1 := by rw [hW1]; exact Keeps.drewN _ _ _
  have hx := (k1.block w.heap.size ((Array.getElem?_eq_some_iff.1 HX.out).1) (by simp)).trans HX.out
  have K1 := Lib.hid (K0.out.trans k1)
  have HX1 := Lib.hid hx
  have C1 := Lib.hid (H.out.keep0 K1.out)
  have hxc0 := cell_of_block hx 0
  have hxc1 := cell_of_block hx 1
  have hxc2 := cell_of_block hx 2
  have hxc3 := cell_of_block hx 3
  have hxc4 := cell_of_block hx 4
  have hxc5 := cell_of_block hx 5
  have hxc6 := cell_of_block hx 6
  have hxc7 := cell_of_block hx 7
  have hxc8 := cell_of_block hx 8
  simp at hxc0 hxc1 hxc2 hxc3 hxc4 hxc5 hxc6 hxc7 hxc8
  have hxf0 := free_of_block hx 0
  have hxf1 := free_of_block hx 1
  have hxf2 := free_of_block hx 2
  have hxf3 := free_of_block hx 3
  have hxf4 := free_of_block hx 4
  have hxf5 := free_of_block hx 5
  have hxf6 := free_of_block hx 6
  have hxf7 := free_of_block hx 7
  have hxf8 := free_of_block hx 8
  clear hx k1 hW1 HX HB K0 q16
  have c2 := C1.out.e.c2
  have HL := Lib.hid (fun W => length_any W g og' Ao Ad no co cd)
  have LN := lenI_bd og'
  have HAC := Lib.hid (fun W => hac W)
  clear hac
  unfold segV at HL
  go_upto_region 11 with fail
  go_region_held3 (fun w' => w'.cell? ⟨w.heap.size, 0, none⟩ = some (.int .u16 g.sp) ∧ w'.cell? ⟨w.heap.size, 1, none⟩ = some (.int .u16 g.dp) ∧ w'.cell? ⟨w.heap.size, 2, none⟩ = some (.int .u32 g.sq) ∧ w'.cell? ⟨w.heap.size, 3, none⟩ = some (.int .u32 g.ak) ∧ w'.cell? ⟨w.heap.size, 4, none⟩ = some (.int .u8 g.fl) ∧ w'.cell? ⟨w.heap.size, 5, none⟩ = some (.int .u16 g.wn) ∧ w'.cell? ⟨w.heap.size, 6, none⟩ = some (.int .u16 g.ug) ∧ w'.cell? ⟨w.heap.size, 7, none⟩ = some (.slice Ao no co) ∧ w'.cell? ⟨w.heap.size, 8, none⟩ = some (.slice Ad g.data.length cd) ∧ w'.cell? ⟨x, 2, none⟩ = some (.int .u32 s.iss)) ((refine (fun kx => ⟨cell_keeps kx hxc0 (by simp), cell_keeps kx hxc1 (by simp), cell_keeps kx hxc2 (by simp), cell_keeps kx hxc3 (by simp), cell_keeps kx hxc4 (by simp), cell_keeps kx hxc5 (by simp), cell_keeps kx hxc6 (by simp), cell_keeps kx hxc7 (by simp), cell_keeps kx hxc8 (by simp), cell_keeps kx c2 (by simp)⟩ : Keeps [] W1 _ → _) ?_; (repeat (first | with_reducible assumption | with_reducible exact Keeps.refl _ _ | with_reducible apply Keeps.alloc' | with_reducible apply Keeps.drew' | with_reducible apply Keeps.drewN' | (with_reducible apply Keeps.setCell'; rotate_left; · simp))))) (first | (go_at_call 66; with_reducible refine (HL.out _).mono ?_; rintro e w5 ⟨rfl, k5⟩; have kw5 : Keeps [] W1 w5 := Keeps.trans (by (repeat (first | with_reducible assumption | with_reducible exact Keeps.refl _ _ | with_reducible apply Keeps.alloc' | with_reducible apply Keeps.drew' | with_reducible apply Keeps.drewN' | (with_reducible apply Keeps.setCell'; rotate_left; · simp)))) k5; clear k5) | (go_at_call 65; with_reducible refine (HAC.out _).mono ?_; rintro e w6 ⟨rfl, k6⟩; have kw6 : Keeps [] W1 w6 := Keeps.trans (by (repeat (first | with_reducible assumption | with_reducible exact Keeps.refl _ _ | with_reducible apply Keeps.alloc' | with_reducible apply Keeps.drew' | with_reducible apply Keeps.drewN' | (with_reducible apply Keeps.setCell'; rotate_left; · simp)))) k6; clear k6))
  go_upto_region 13 with fail
  refine wp_gn (fun W2 hW2 => ?_)
  have k2 : Keeps [] W1 W2 := by rw [hW2]; first | exact Keeps.drewN _ _ _ | exact kw6.drewN' _ | exact kw6.drew' | exact kw6
  have C2 := Lib.hid (C1.out.keep0 k2)
  have HX2 := Lib.hid ((k2.block w.heap.size ((Array.getElem?_eq_some_iff.1 HX1.out).1) (by simp)).trans HX1.out)
  have K2 := Lib.hid (K1.out.trans k2)
  clear hW2 k2 C1 K1 HX1 hxc0 hxc1 hxc2 hxc3 hxc4 hxc5 hxc6 hxc7 hxc8 c2 kw5 kw6 HL HAC hlw
  have hx2 := HX2.out
  have hx2c0 := cell_of_block hx2 0
  have hx2c1 := cell_of_block hx2 1
  have hx2c2 := cell_of_block hx2 2
  have hx2c3 := cell_of_block hx2 3
  have hx2c4 := cell_of_block hx2 4
  have hx2c5 := cell_of_block hx2 5
  have hx2c6 := cell_of_block hx2 6
  have hx2c7 := cell_of_block hx2 7
  have hx2c8 := cell_of_block hx2 8
  simp at hx2c0 hx2c1 hx2c2 hx2c3 hx2c4 hx2c5 hx2c6 hx2c7 hx2c8
  have hx2f0 := free_of_block hx2 0
  have hx2f1 := free_of_block hx2 1
  have hx2f2 := free_of_block hx2 2
  have hx2f3 := free_of_block hx2 3
  have hx2f4 := free_of_block hx2 4
  have hx2f5 := free_of_block hx2 5
  have hx2f6 := free_of_block hx2 6
  have hx2f7 := free_of_block hx2 7
  have hx2f8 := free_of_block hx2 8
  clear hx2
  go_wp2_with fail
  refine (ewindow_any C2.out.e C2.out.ok.scl g (.slice Ao no co) (.slice Ad g.data.length cd) og'.wn).mono ?_
  rintro e w3 ⟨rfl, k3⟩
  have C3 := Lib.hid (C2.out.keep0 k3)
  have HX3 := Lib.hid ((k3.block w.heap.size ((Array.getElem?_eq_some_iff.1 HX2.out).1) (by simp)).trans HX2.out)
  have K3 := Lib.hid (K2.out.trans k3)
  have z14 := C3.out.e.fz 14
  have c14 := C3.out.e.c14
  clear k3 C2 K2 HX2 hx2c0 hx2c1 hx2c2 hx2c3 hx2c4 hx2c5 hx2c6 hx2c7 hx2c8 hx2f0 hx2f1 hx2f2 hx2f3 hx2f4 hx2f5 hx2f6 hx2f7 hx2f8 hxf0 hxf1 hxf2 hxf3 hxf4 hxf5 hxf6 hxf7 hxf8
  go_upto_region 14 with fail
  refine wp_gn (fun W4 hW4 => ?_)
  have k4 : Keeps [x] w3 W4 := by rw [hW4]; exact Keeps.setCell _ ⟨x, 14, none⟩ _
  have he4 : EndAt W4 x { s with win := winI g.wn s.scl } := by rw [hW4]; exact C3.out.e.s14 _
  have c4 := C3.out.upd k4 he4 ⟨rfl, rfl, rfl, rfl, rfl, rfl, rfl, rfl, rfl, rfl⟩ rfl
  have HD4 := Lib.hid ((HD.out.keep0 K3.out).keep k4 C3.out.no)
  have HX4 := Lib.hid ((k4.block w.heap.size ((Array.getElem?_eq_some_iff.1 HX3.out).1) (by simp; omega)).trans HX3.out)
  have K4 := Lib.hid ((K3.out.mono (T := [x]) (by simp)).trans k4)
  obtain ⟨s1, hs1⟩ : ∃ s1, s1 = { s with win := winI g.wn s.scl } := ⟨_, rfl⟩
  rw [← hs1] at c4
  have C4 := Lib.hid c4
  have HS1 := Lib.hid hs1
  have hz4 := K4.out.size
  clear k4 he4 c4 C3 HX3 K3 hW4 z14 c14 hs1
  have hx4 := HX4.out
  have hx4c2 := cell_of_block hx4 2
  have hx4c8 := cell_of_block hx4 8
  simp at hx4c2 hx4c8
  have hx4f2 := free_of_block hx4 2
  have hx4f8 := free_of_block hx4 8
  clear hx4
  have d16 := C4.out.e.c16
  rw [C4.out.inp] at d16
  have hxb : x ≠ b := C4.out.xb
  have hsb : w.heap.size ≠ b := by have := lt_of_block H.out.bf.head; omega
  go_region_held3 (fun w' => w'.cell? ⟨x, 16, none⟩ = some (.pointer (some ⟨b, 0, none⟩)) ∧ w'.cell? ⟨w.heap.size, 2, none⟩ = some (.int .u32 g.sq) ∧ w'.cell? ⟨w.heap.size, 8, none⟩ = some (.slice Ad g.data.length cd)) (first | go_keep | exact ⟨cell_keeps k5 d16 (by simpa using hxb), cell_keeps k5 hx4c2 (by simpa using hsb), cell_keeps k5 hx4c8 (by simpa using hsb)⟩)
    (first
      | (go_at_call 68; with_reducible refine (bput_do (C4.out.keep0 (Keeps.drew [] _)).bf H.out.okb g.sq og'.sq Ad g.data.length cd g.data (HD4.out.keep0 (Keeps.drew [] _)) HN.out).mono ?_; rintro e w5 ⟨z1, z2, rfl, k5, mb1, hb5, hm5⟩; have k5 := (Keeps.drew [b] W4).trans k5))
  go_upto_region 15 with fail
  refine wp_gn (fun W5 hW5 => ?_)
  have k5w : Keeps [] w5 W5 := by rw [hW5]; first | exact Keeps.refl _ _ | exact Keeps.drew _ _ | exact Keeps.drewN _ _ _
  have okb1 := BS.put_ok H.out.okb og'.sq g.data HN.out
  have C5 := Lib.hid ((C4.out.putB k5 hb5 okb1 (BS.put_taken _ _ _).1 hm5).keep0 k5w)
  have K5 := Lib.hid (((K4.out.mono (T := [x, b]) (by simp)).trans (k5.mono (T := [x, b]) (by simp))).trans (k5w.mono (by simp)))
  have HX5 := Lib.hid ((k5w.block _ (by have := k5.size; have := lt_of_block HX4.out; omega) (by simp)).trans ((k5.block w.heap.size (lt_of_block HX4.out) (by simpa using hsb)).trans HX4.out))
  have hm5' : mb1 = mb ∨ w.heap.size < mb1 := by
    rcases hm5 with h0 | h0
    · exact .inl h0
    · have := lt_of_block HX4.out
      have : W4.heap.size ≤ mb1 := h0
      exact .inr (by omega)
  obtain ⟨st1, hst1⟩ : ∃ st1, st.put g.sq g.data = st1 := ⟨_, rfl⟩
  rw [hst1] at C5 okb1
  have OK1 := Lib.hid okb1
  have HST := Lib.hid hst1
  obtain ⟨At, ct, htk⟩ := own_slice C5.out.own
  have f16 := C5.out.e.c16
  rw [C5.out.inp] at f16
  have f17 := C5.out.e.c17
  rw [htk] at f17
  have hB : B ≤ w.heap.size := by have := C5.out.zx; omega
  have hzb := lt_of_block C5.out.bf.head
  have hzm := C5.out.bf.map.lt
  have hxm := C5.out.xm
  have hz5 := K5.out.size
  clear k5 hb5 hm5 k5w hW5 C4 HX4 K4 HD4 hx4c2 hx4c8 hx4f2 hx4f8 d16 okb1 hst1 HD HN
  have hlen : tl.length + st1.out.length ≤ 1099511627776 := by
    have h0 : st1.out.length = st1.ready := bytesN_len _ _ _
    have := C5.out.len
    have := BS.ready_le OK1.out
    have := OK1.out.r
    have := OK1.out.tr
    omega
  have hown5 := Lib.hid C5.out.own
  rw [htk] at hown5
  have hne5 : ∀ j, (Value.slice At tl.length ct).ownBlock = some j → j ≠ x ∧ j ≠ b ∧ j ≠ mb1 := by rw [← htk]; exact C5.out.sep
  have HNE5 := Lib.hid hne5
  clear hne5
  go_cut [] (fun wx => ∃ v8, Cli wx B x b mb1 { s1 with tak := v8 } st1.take (tl ++ st1.out) ∧ Keeps (footC x b mb1 s1) W5 wx ∧ (v8.ownBlock = s1.tak.ownBlock ∨ ∃ j, v8.ownBlock = some j ∧ W5.heap.size ≤ j))
  case first =>
    go_region_law
      (first
        | (refine step_append_bytes (by rfl) _ _ B 37 5 (by rfl) Tryz.underlying37 Tryz.infoU8 _ tl.length tl (by rfl) hown6 _ st1.out (by rfl) hy9 hlen hB6 ?_; intro v8 w8 hown8 hg8 hat8; obtain ⟨A8, c8, rfl⟩ := own_slice hown8; have e8 := (C5.out.e.keep k6 (by simp; omega)).grown hg8 (fun e => (HNE5.out x e).1 rfl); have z8 := e8.fz 17; have c17 := e8.c17; rw [htk] at c17; have c16 := e8.c16; rw [C5.out.inp] at c16)
        | (go_simp; go_at_call 69; (with_reducible refine (btake_any (C5.out.keep0 (Keeps.drew [] _)).bf OK1.out).mono ?_); rintro e w6 ⟨y, rfl, hy, hb6, k6⟩; have k6 : Keeps [b, mb1] W5 w6 := (Keeps.drew [b, mb1] W5).trans k6; obtain ⟨A9, c9, rfl⟩ := own_slice hy; have hy9 := BytesV.of_own hy; have hown6 := own_keepsS hown5.out k6 (fun j hj => by have := HNE5.out j hj; simp; omega); have hB6 : B ≤ w6.heap.size := (by have := k6.size; omega); have g16 := cell_keeps k6 f16 (by simp; omega); have g17 := cell_keeps k6 f17 (by simp; omega)))
    all_goals
      go_wp2_with fail
      go_meet
      exact ⟨_, C5.out.took k6 hb6 hown8 (by rw [htk]; exact hg8) (by rw [htk]; exact hat8)⟩
  case rest => as_aux_lemma =>
    obtain ⟨v8, c9, k9, hv8⟩ := hcut
    have hst4 := C5.out.e.lt
    have hlw : w.heap.size < W5.heap.size := lt_of_block HX5.out
    have hns : w.heap.size ∉ footC x b mb1 s1 := by
      have h1 := H.out.e.lt
      have h2 := lt_of_block H.out.bf.head
      have h3 := H.out.bf.map.lt
      simp only [footC, List.mem_cons, not_or, Option.mem_toList]
      refine ⟨by omega, by omega, by omega, fun e => ?_⟩
      rw [HS1.out] at e
      have := (H.out.own.lt _ e).2
      omega
    have HX9 := Lib.hid ((k9.block _ hlw hns).trans HX5.out)
    have C9 := Lib.hid c9
    have K9 := Lib.hid (show Keeps (footC x b mb s) w wc from by
      have k := ((K5.out.mono (T := footC x b mb1 s1) (by simp [footC])).trans k9)
      refine ⟨k.os, k.tape, k.output, k.size, fun j hj hS => k.block j hj (fun hm => ?_)⟩
      simp only [footC, List.mem_cons, not_or] at hS hm
      obtain ⟨a1, a2, a3, a4⟩ := hS
      rcases hm with h0 | h0 | h0 | h0
      · exact a1 h0
      · exact a2 h0
      · rcases hm5' with h1 | h1
        · exact a3 (h0.trans h1)
        · omega
      · rw [HS1.out] at h0; exact a4 h0)
    obtain ⟨s2, hs2⟩ : ∃ s2, s2 = { s1 with tak := v8 } := ⟨_, rfl⟩
    rw [← hs2] at C9
    have HF := Lib.hid (show ∀ j ∈ footC x b mb1 s2, j ∈ footC x b mb s ∨ w.heap.size ≤ j from by
      intro j hj
      simp only [footC, List.mem_cons, Option.mem_toList] at hj ⊢
      rcases hj with h0 | h0 | h0 | h0
      · exact .inl (.inl h0)
      · exact .inl (.inr (.inl h0))
      · rcases hm5' with h1 | h1
        · exact .inl (.inr (.inr (.inl (h0.trans h1))))
        · exact .inr (by omega)
      · rw [hs2] at h0
        rcases hv8 with h1 | ⟨j2, h1, h2⟩
        · rw [h1, HS1.out] at h0
          exact .inl (.inr (.inr (.inr h0)))
        · rw [h1] at h0
          injection h0 with h0
          exact .inr (by omega))
    have HS2 := Lib.hid (show s2 = { s with win := winI g.wn s.scl, tak := s2.tak } from by rw [hs2, HS1.out])
    clear c9 k9 hv8 hs2 hns hm5' hown5 HNE5 hlen f16 f17 C5 K5 HX5 htk
    have hx9 := HX9.out
    have hx9c2 := cell_of_block hx9 2
    have hx9c4 := cell_of_block hx9 4
    have hx9c8 := cell_of_block hx9 8
    simp at hx9c2 hx9c4 hx9c8
    have hx9f2 := free_of_block hx9 2
    have hx9f4 := free_of_block hx9 4
    have hx9f8 := free_of_block hx9 8
    clear hx9
    obtain ⟨nx, hnx⟩ : ∃ nx, st1.take.next = nx := ⟨_, rfl⟩
    have HNX := Lib.hid hnx
    clear hnx
    have HNC := Lib.hid (fun n => (show Calls Tryz.prog 36 #[.pointer (some ⟨b, 0, none⟩)] (wc.drewN n) fun e w' => e = .returned (.int .u32 nx) ∧ wc.drewN n = w' from by rw [← HNX.out]; exact bnext_any (C9.out.keep0 (Keeps.drewN [] wc n)).bf C9.out.okb))
    have HAD := Lib.hid (fun n => add_any (wc.drewN n) g.sq g.data.length og'.sq)
    have c16 := C9.out.e.c16
    rw [C9.out.inp] at c16
    have hxw : w.heap.size ≠ x := by omega
    clear hlw hst4 hz4 hz5 hxm hzb hzm hB hxb hsb
    by_cases h1 : has g.fl 1 = true
    · have HTO := Lib.hid (show toldC g = true by unfold toldC; rw [h1]; rfl)
      by_cases he : nx = addI g.sq g.data.length
      · have HE := Lib.hid (show endsC st1.take g = true by unfold endsC; rw [h1, HNX.out, decide_eq_true he]; rfl)
        have he' : (nx == addI g.sq g.data.length) = true := by simpa using he
        unfold has at h1
        clear he
        go_upto_region 17 with fail
        go_quiet ((first | (go_at_call 36; exact quiet_same (HNC.out _)) | (go_at_call 60; exact quiet_same (HAD.out _))))
        have z18 := fun n => (C9.out.keep0 (Keeps.drewN [] wc n)).e.fz 18
        have c18 := fun n => (C9.out.keep0 (Keeps.drewN [] wc n)).e.c18
        go_upto_region 19 with fail
        refine wp_gn (fun W7 hW7 => ?_)
        have c7 : Cli W7 B x b mb1 { s2 with ended := true } st1.take (tl ++ st1.out) := by
          rw [hW7]
          exact (C9.out.keep0 (Keeps.drewN [] wc _)).upd (Keeps.setCell _ ⟨x, 18, none⟩ _) ((C9.out.keep0 (Keeps.drewN [] wc _)).e.s18 true) ⟨rfl, rfl, rfl, rfl, rfl, rfl, rfl, rfl, rfl, rfl⟩ rfl
        have k7 : Keeps [x] wc W7 := by rw [hW7]; exact (Keeps.drewN [x] wc _).trans (Keeps.setCell _ ⟨x, 18, none⟩ _)
        have hx7 := (k7.block w.heap.size (lt_of_block HX9.out) (by simp; omega)).trans HX9.out
        have K7 := Lib.hid (K9.out.trans (k7.mono (by simp [footC])))
        have C7 := Lib.hid c7
        clear hW7 k7 c7
        have hx7c4 := cell_of_block hx7 4
        have hx7c8 := cell_of_block hx7 8
        simp at hx7c4 hx7c8
        have hx7f4 := free_of_block hx7 4
        have hx7f8 := free_of_block hx7 8
        clear hx7
        go_wp2_with fail
        refine (eacksC_any C7.out.e C7.out.ok C7.out.st2 C7.out.inp C7.out.bf C7.out.okb _).mono ?_
        rintro e w10 ⟨v, rfl, ht, k10⟩
        have HT := Lib.hid (And.intro (ht.mono (Keeps.refl _ _) K7.out.size) k10)
        have hz7 := K7.out.size
        clear ht k10
        go_wp2_with fail
        go_ret
        refine ⟨v, { s2 with ended := true }, mb1, rfl, ?_, ?_, ?_, K7.out.trans (HT.out.2.mono (by simp)), ?_⟩
        · rw [HST.out]; exact C7.out.keep0 HT.out.2
        · rw [HST.out, HE.out, Bool.or_true]; have := HS2.out; rw [this]
        · rw [HST.out, HTO.out]; exact HT.out.1
        · exact HF.out
      · have HE := Lib.hid (show endsC st1.take g = false by unfold endsC; rw [h1, HNX.out, decide_eq_false he]; rfl)
        have he' : (nx == addI g.sq g.data.length) = false := by simpa using he
        unfold has at h1
        clear he
        go_upto_region 17 with fail
        go_quiet ((first | (go_at_call 36; exact quiet_same (HNC.out _)) | (go_at_call 60; exact quiet_same (HAD.out _))))
        go_upto_region 19 with fail
        refine wp_gn (fun W7 hW7 => ?_)
        have k7 : Keeps [x] wc W7 := by rw [hW7]; first | exact Keeps.refl _ _ | exact Keeps.drewN [x] wc _ | exact Keeps.drew [x] wc
        have k7' : Keeps [] wc W7 := by rw [hW7]; first | exact Keeps.refl _ _ | exact Keeps.drewN [] wc _ | exact Keeps.drew [] wc
        have c7 : Cli W7 B x b mb1 s2 st1.take (tl ++ st1.out) := C9.out.keep0 k7'
        have hx7 := (k7.block w.heap.size (lt_of_block HX9.out) (by simp; omega)).trans HX9.out
        have K7 := Lib.hid (K9.out.trans (k7.mono (by simp [footC])))
        have C7 := Lib.hid c7
        clear hW7 k7 c7
        have hx7c4 := cell_of_block hx7 4
        have hx7c8 := cell_of_block hx7 8
        simp at hx7c4 hx7c8
        have hx7f4 := free_of_block hx7 4
        have hx7f8 := free_of_block hx7 8
        clear hx7
        go_wp2_with fail
        refine (eacksC_any C7.out.e C7.out.ok C7.out.st2 C7.out.inp C7.out.bf C7.out.okb _).mono ?_
        rintro e w10 ⟨v, rfl, ht, k10⟩
        have HT := Lib.hid (And.intro (ht.mono (Keeps.refl _ _) K7.out.size) k10)
        have hz7 := K7.out.size
        clear ht k10
        go_wp2_with fail
        go_ret
        refine ⟨v, s2, mb1, rfl, ?_, ?_, ?_, K7.out.trans (HT.out.2.mono (by simp)), ?_⟩
        · rw [HST.out]; exact C7.out.keep0 HT.out.2
        · rw [HST.out, HE.out, Bool.or_false]; exact HS2.out
        · rw [HST.out, HTO.out]; exact HT.out.1
        · exact HF.out
    · have h1 : has g.fl 1 = false := by simpa using h1
      have HTO := Lib.hid (show toldC g = decide (0 < g.data.length) by unfold toldC; rw [h1]; rfl)
      have HE := Lib.hid (show endsC st1.take g = false by unfold endsC; rw [h1]; rfl)
      unfold has at h1
      go_upto_region 17 with fail
      go_quiet ((first | (go_at_call 36; exact quiet_same (HNC.out _)) | (go_at_call 60; exact quiet_same (HAD.out _))))
      go_upto_region 19 with fail
      refine wp_gn (fun W7 hW7 => ?_)
      have k7 : Keeps [x] wc W7 := by rw [hW7]; first | exact Keeps.refl _ _ | exact Keeps.drewN [x] wc _ | exact Keeps.drew [x] wc
      have k7' : Keeps [] wc W7 := by rw [hW7]; first | exact Keeps.refl _ _ | exact Keeps.drewN [] wc _ | exact Keeps.drew [] wc
      have c7 : Cli W7 B x b mb1 s2 st1.take (tl ++ st1.out) := C9.out.keep0 k7'
      have hx7 := (k7.block w.heap.size (lt_of_block HX9.out) (by simp; omega)).trans HX9.out
      have K7 := Lib.hid (K9.out.trans (k7.mono (by simp [footC])))
      have C7 := Lib.hid c7
      clear hW7 k7 c7
      have hx7c4 := cell_of_block hx7 4
      have hx7c8 := cell_of_block hx7 8
      simp at hx7c4 hx7c8
      have hx7f4 := free_of_block hx7 4
      have hx7f8 := free_of_block hx7 8
      clear hx7
      go_wp2_with fail
      refine (eacksC_any C7.out.e C7.out.ok C7.out.st2 C7.out.inp C7.out.bf C7.out.okb _).mono ?_
      rintro e w10 ⟨v, rfl, ht, k10⟩
      have HT := Lib.hid (And.intro (ht.mono (Keeps.refl _ _) K7.out.size) k10)
      have hz7 := K7.out.size
      clear ht k10
      go_wp2_with fail
      go_ret
      refine ⟨v, s2, mb1, rfl, ?_, ?_, ?_, K7.out.trans (HT.out.2.mono (by simp)), ?_⟩
      · rw [HST.out]; exact C7.out.keep0 HT.out.2
      · rw [HST.out, HE.out, Bool.or_false]; exact HS2.out
      · rw [HST.out, HTO.out]; exact HT.out.1
      · exact HF.out

end Go.Proofs.YtakgohocimlagaaGreat
