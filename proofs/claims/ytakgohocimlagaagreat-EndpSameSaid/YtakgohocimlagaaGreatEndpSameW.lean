/-
  The walk of the law EndpSame. Condition: the arguments are in the ranges of their kinds; no segment holds more than 2^47 bytes. The law EndpSame, its arguments opened. No condition but the row's own bound on sizes.
-/
import Derived.Test.YtakgohocimlagaaGreatEpP
import Derived.Deep.CutBlock
import Derived.Handed
namespace Go.Proofs.YtakgohocimlagaaGreat
open Go.RowKit
set_option linter.unusedVariables false
set_option linter.unusedSimpArgs false

theorem wpAnyH_mono {P : Program} {md : Region.Mode} {ops : Array Oper} {Q : Exit → Act → World → Prop} {S S' : World → Prop} (hS : ∀ W, S' W → S W) : ∀ (fuel : Nat) (listed : Array Bool) (a : Act) (w : World), wpAnyH P md ops Q S' fuel listed a w → wpAnyH P md ops Q S fuel listed a w
  | 0, _, _, _, h => h
  | fuel + 1, _, _, _, h => ⟨h.1, fun i hi => wpOp_mono (fun a' w' h' => ⟨hS _ h'.1, wpAnyH_mono hS fuel _ a' w' h'.2⟩) (h.2 i hi)⟩
theorem SegIn.cells {W w : World} {blk off i : Nat} {g : Seg} {A1 : Option Addr} {n1 k1 : Nat} {A2 : Option Addr} {k2 : Nat} (h : SegIn W blk off i g A1 n1 k1 A2 k2) (k : Keeps [] W w) :
    w.cell? ⟨blk, off + i * 9, none⟩ = some (.int .u16 g.sp) ∧ w.cell? ⟨blk, off + i * 9 + 1, none⟩ = some (.int .u16 g.dp) ∧ w.cell? ⟨blk, off + i * 9 + 2, none⟩ = some (.int .u32 g.sq) ∧ w.cell? ⟨blk, off + i * 9 + 3, none⟩ = some (.int .u32 g.ak) ∧ w.cell? ⟨blk, off + i * 9 + 4, none⟩ = some (.int .u8 g.fl) ∧ w.cell? ⟨blk, off + i * 9 + 5, none⟩ = some (.int .u16 g.wn) ∧ w.cell? ⟨blk, off + i * 9 + 6, none⟩ = some (.int .u16 g.ug) ∧ w.cell? ⟨blk, off + i * 9 + 7, none⟩ = some (.slice A1 n1 k1) ∧ w.cell? ⟨blk, off + i * 9 + 8, none⟩ = some (.slice A2 g.data.length k2) := by
  obtain ⟨h0, h1, q0, q1, q2, q3, q4, q5, q6, q7, q8, h2, h3⟩ := h.keep k
  exact ⟨q0, q1, q2, q3, q4, q5, q6, q7, q8⟩
theorem SegIn.row {W w : World} {blk off i : Nat} {g : Seg} {A1 : Option Addr} {n1 k1 : Nat} {A2 : Option Addr} {k2 : Nat} (h : SegIn W blk off i g A1 n1 k1 A2 k2) (k : Keeps [] W w) : OptsV w (.slice A1 n1 k1) g.ops ∧ BytesV w (.slice A2 g.data.length k2) g.data := by
  obtain ⟨h0, h1, q0, q1, q2, q3, q4, q5, q6, q7, q8, h2, h3⟩ := h.keep k
  exact ⟨h2, h3⟩
theorem SegIn.ok {W : World} {blk off i : Nat} {g : Seg} {A1 : Option Addr} {n1 k1 : Nat} {A2 : Option Addr} {k2 : Nat} (h : SegIn W blk off i g A1 n1 k1 A2 k2) (hn : g.data.length ≤ 1460) : g.Ok := by
  obtain ⟨⟨a0, a1, a2, a3, a4, a5, a6, a7, a8, a9, aa, ab, ac, ad⟩, h1, _⟩ := h
  exact ⟨⟨a0, a1⟩, ⟨a2, a3⟩, ⟨a4, a5⟩, ⟨a6, a7⟩, ⟨a8, a9⟩, ⟨aa, ab⟩, ⟨ac, ad⟩, by omega⟩
theorem SegIn.len {W : World} {blk off i : Nat} {g : Seg} {A1 : Option Addr} {n1 k1 : Nat} {A2 : Option Addr} {k2 : Nat} (h : SegIn W blk off i g A1 n1 k1 A2 k2) : g.data.length ≤ 140737488355328 := h.2.1
theorem SegsE.at {W : World} {q : Option Addr} {len : Nat} (h : SegsE W q len) {i : Nat} (hi : i < len) : ∃ blk off g A1 n1 k1 A2 k2, q = some ⟨blk, off, none⟩ ∧ SegIn W blk off i g A1 n1 k1 A2 k2 := by
  rcases h with h | ⟨blk, off, rfl, h⟩
  · omega
  · obtain ⟨g, A1, n1, k1, A2, k2, h⟩ := h i hi
    exact ⟨blk, off, g, A1, n1, k1, A2, k2, rfl, h⟩
/-- the loop's state -/
structure SmAt (W : World) (iss F1 : Int) (wr : World) (x b mb : Nat) (s : ES) (y b2 mb2 : Nat) (t2 : Value) (st : BS) (tl : List UInt8) : Prop where
  e : EqAt wr W.heap.size x b mb s y b2 mb2 t2 st tl
  hiss : s.iss = iss
  hf : st.first = F1
  kp : Keeps [] W wr
theorem SmAt.keep0 {W : World} {iss F1 : Int} {wr w' : World} {x b mb : Nat} {s : ES} {y b2 mb2 : Nat} {t2 : Value} {st : BS} {tl : List UInt8} (h : SmAt W iss F1 wr x b mb s y b2 mb2 t2 st tl) (k : Keeps [] wr w') : SmAt W iss F1 w' x b mb s y b2 mb2 t2 st tl :=
  ⟨h.e.keep0 k, h.hiss, h.hf, h.kp.trans k⟩
theorem nEnd_iss (k : Nat) (s : ES) (st : BS) (tak : Value) (g : Seg) : (nEnd k s st tak g).iss = s.iss := by
  unfold nEnd; split
  · rfl
  · split <;> rfl
theorem nSt_first (k : Nat) (st : BS) (g : Seg) : (nSt k st g).first = st.first := by
  unfold nSt; split
  · exact (BS.put_taken st g.sq g.data).2.2
  · rfl
theorem SmAt.both {W : World} {iss F1 : Int} {w w1 w2 : World} {x b mb : Nat} {s : ES} {y b2 mb2 : Nat} {t2 : Value} {st : BS} {tl : List UInt8} (h : SmAt W iss F1 w x b mb s y b2 mb2 t2 st tl) {g : Seg} (og : g.Ok) (hn : g.data.length ≤ 1460) {v1 v2 : Value}
    (hx : Behind w w1 W.heap.size x b mb s st tl g (sameK s st g) v1) (hy : Behind w1 w2 W.heap.size y b2 mb2 (s.beside b2 t2) st tl g (sameK s st g) v2) :
    ∃ sx mbx mby ty st' tl' is, SmAt W iss F1 w2 x b mbx sx y b2 mby ty st' tl' ∧ tl.length ≤ tl'.length ∧ Told w.heap.size w2 v1 is (sx.ackC st') ∧ Told w1.heap.size w2 v2 is (sx.ackC st') ∧
      (∀ b3 t3, nTl (sameK (sx.beside b3 t3) st' g) st' tl' g = tl') := by
  obtain ⟨sx, mbx, mby, ty, he, ex, hk, t1, t2⟩ := h.e.both og (by omega) hx hy
  refine ⟨sx, mbx, mby, ty, _, _, _, ⟨he, ?_, (nSt_first _ _ _).trans h.hf, (h.kp.mono (T := _) (by simp) |>.trans hk).fresh ?_⟩, nTl_le _ _ _ _, t1, t2, fun b3 t3 => ?_⟩
  · rw [ex, nEnd_iss]; exact h.hiss
  · intro j hj hlt
    rcases List.mem_append.1 hj with h0 | h0
    · have := h.e.cx.foot_ge j h0; omega
    · have := h.e.cy.foot_ge j h0; omega
  · rw [ex]
    exact second h.e.cx.okb h.e.rdy og (by omega)

theorem Behind.told {w w' : World} {B x b mb : Nat} {s : ES} {st : BS} {tl : List UInt8} {g : Seg} {k : Nat} {v : Value} (h : Behind w w' B x b mb s st tl g k v) : ∃ A m c, v = .slice A m c ∧ m ≤ 1 := by
  obtain ⟨s', mb', _, _, ht, _, _⟩ := h
  exact ht.slice
theorem Behind.kp {W w w' : World} {x b mb : Nat} {s : ES} {st : BS} {tl : List UInt8} {g : Seg} {k : Nat} {v : Value} (h : Behind w w' W.heap.size x b mb s st tl g k v) (hc : Cli w W.heap.size x b mb s st tl) (hk : Keeps [] W w) : Keeps [] W w' := by
  obtain ⟨s', mb', _, _, _, k, _⟩ := h
  exact (hk.mono (T := _) (by simp) |>.trans k).fresh (fun j hj hlt => by have := hc.foot_ge j hj; omega)
/-- y took the segment once more: x lies as it did, of y no more was taken -/
theorem SmAt.again {W : World} {iss F1 : Int} {w w' : World} {x b mb : Nat} {s : ES} {y b2 mb2 : Nat} {t2 : Value} {st : BS} {tl : List UInt8} (h : SmAt W iss F1 w x b mb s y b2 mb2 t2 st tl) {g : Seg} {v : Value} (hl : nTl (sameK (s.beside b2 t2) st g) st tl g = tl)
    (hy : Behind w w' W.heap.size y b2 mb2 (s.beside b2 t2) st tl g (sameK (s.beside b2 t2) st g) v) : Cli w' W.heap.size x b mb s st tl ∧ (∃ mb3 sy st3, Cli w' W.heap.size y b2 mb3 sy st3 tl) ∧ Keeps [] W w' ∧ ∃ A m c, v = .slice A m c ∧ m ≤ 1 := by
  have kp := hy.kp h.e.cy h.kp
  have tv := hy.told
  obtain ⟨sy, mb3, hc, _, _, k, _⟩ := hy
  rw [hl] at hc
  exact ⟨h.e.cx.keep k (fun j hj hm => h.e.ap j hj hm), ⟨mb3, sy, _, hc⟩, kp, tv⟩
theorem estate_beside {w : World} {y : Nat} {s : ES} {b2 : Nat} {t2 : Value} (h : EndAt w y (s.beside b2 t2)) (h1 : 1 ≤ s.st) : Calls Tryz.prog 14 #[.pointer (some ⟨y, 0, none⟩)] w fun e w' => e = .returned (.int .i64 s.st) ∧ w = w' := estate_any (s := s.beside b2 t2) h h1
theorem sub_ack {F1 : Int} (a c : Nat) (h1 : c ≤ a) (h2 : a ≤ 16384) : IntKind.u32.wrap (addI F1 a - addI F1 c) = (a : Int) - c ∧ IntKind.i32.wrap ((a : Int) - c) = (a : Int) - c ∧ decide ((a : Int) - c < 0) = false := by
  refine ⟨?_, ?_, decide_eq_false (by omega)⟩
  · rw [IntKind.wrap_u32]; unfold addI; omega
  · rw [IntKind.wrap_i32]; omega

set_option maxRecDepth 100000 in
set_option maxHeartbeats 4000000 in
theorem same_walk (W : World) (iss irs : Int) (u0 : U32 iss) (u1 : U32 irs) (q : Option Addr) (len cap : Nat) (hl : len ≤ maxLen) (hp : SegsE W q len) :
    Calls Tryz.prog 3 #[.int .u32 iss, .int .u32 irs, .slice q len cap] W fun e w' => e = .returned (.bool true) ∧ Keeps [] W w' := by
  have hfd : ∀ (w : World) (a b c d e f g : Int), (Instr.field 39 (.agg #[.int .u16 a, .int .u16 b, .int .u32 c, .int .u32 d, .int .u8 e, .int .u16 f, .int .u16 g, .slice none 0 0, .slice none 0 0]) 3).run Tryz.prog w = .ok (.int .u32 d) w := fun _ _ _ _ _ _ _ _ => by kernel_rfl
  go_enter Tryz.func3, Tryz.ntmps3
  go_wp2_with fail
  refine (setup_ok W).mono ?_
  rintro e w1 ⟨rfl, k1⟩
  unfold setupV
  have K1 := Lib.hid k1
  have hz1 := k1.size
  clear k1
  go_upto_region 3 with fail
  refine wp_gn (fun W3 hW3 => ?_)
  have k3 : Keeps [] w1 W3 := by rw [hW3]; exact Keeps.alloc _ _ _
  have hS3 : W3.heap[w1.heap.size]? = some (.cells #[.int .u16 1, .int .u16 2, .int .u32 iss, .int .u16 1460, .int .i64 7, .bool true, .int .i64 100, .int .u64 4, .int .i64 3] 27 (0, 0)) := by rw [hW3]; exact (MapKept.heap_alloc w1 _).1
  have K3 := Lib.hid (K1.out.trans k3)
  clear hW3 k3
  generalize hsb : w1.heap.size = sb at *
  have hS3c0 := cell_of_block hS3 0
  have hS3c1 := cell_of_block hS3 1
  have hS3c2 := cell_of_block hS3 2
  have hS3c3 := cell_of_block hS3 3
  have hS3c4 := cell_of_block hS3 4
  have hS3c5 := cell_of_block hS3 5
  have hS3c6 := cell_of_block hS3 6
  have hS3c7 := cell_of_block hS3 7
  have hS3c8 := cell_of_block hS3 8
  simp at hS3c0 hS3c1 hS3c2 hS3c3 hS3c4 hS3c5 hS3c6 hS3c7 hS3c8
  clear hS3
  go_wp2_with fail
  have HA := eaccept_ok W3 1 2 iss 1460 7 true 100 4 3 (by omega) (by omega) u0 (by omega) (by omega) (by omega) (by omega) (by omega) (by omega) (by omega) (by omega) (by omega) (by omega) 0 irs 0 (-1) 0 u1 (by omega) (by omega)
  unfold setupV factsV at HA
  refine HA.mono ?_
  clear HA
  rintro e w4 ⟨x, b, mb, rfl, hc, k4⟩
  have hzW : W.heap.size ≤ W3.heap.size := K3.out.size
  have K4 := Lib.hid (K3.out.trans k4)
  have HC4 := Lib.hid (hc.lower hzW)
  clear hc k4 K3 K1 hsb hzW hz1 hS3c0 hS3c1 hS3c2 hS3c3 hS3c4 hS3c5 hS3c6 hS3c7 hS3c8
  obtain ⟨F1, hF1⟩ : ∃ F1, (irs + 1) % 4294967296 = F1 := ⟨_, rfl⟩
  have HF := Lib.hid hF1
  rw [hF1] at HC4
  clear hF1
  go_wp2_with fail
  refine (ecopy_cli HC4.out).mono ?_
  rintro e w5 ⟨y, b2, mb2, t2, rfl, hy, k5, hfy⟩
  have hS : SmAt W iss F1 w5 x b mb (acceptS 1 2 iss 1460 7 true 100 4 3 irs 0 (-1) 0 b) y b2 mb2 t2 ⟨F1, 0, 100, []⟩ [] :=
    ⟨EqAt.mk' HC4.out (.inl rfl) rfl hy k5 hfy, rfl, rfl, K4.out.trans k5⟩
  have HS := Lib.hid hS
  clear hS hy k5 hfy HC4 K4
  go_wp2_with fail
  refine (eackC_any HS.out.e.cx.e HS.out.e.cx.ok HS.out.e.cx.st2 HS.out.e.cx.inp HS.out.e.cx.bf HS.out.e.cx.okb).mono ?_
  rintro e w6 ⟨rfl, k6⟩
  unfold segV ES.ackC
  have HS6 := Lib.hid (HS.out.keep0 k6)
  clear HS k6
  go_wp2_with fail
  go_loopw [10, 11, 12] (fun yv lv iv wr => ∃ (k mb y b2 mb2 c : Nat) (s : ES) (t2 : Value) (st : BS) (tl : List UInt8), yv = .pointer (some ⟨y, 0, none⟩) ∧ lv = .int .u32 (addI F1 c) ∧ iv = .int .i64 k ∧ k ≤ 30 ∧ k ≤ len ∧ c ≤ tl.length ∧ SmAt W iss F1 wr x b mb s y b2 mb2 t2 st tl) (fun _ _ iv _ => 30 - (intOf iv).toNat)
  case atStart => exact ⟨0, _, _, _, _, 0, _, _, _, _, rfl, rfl, rfl, by omega, by omega, by simp, HS6.out⟩
  case round =>
    obtain ⟨k, mb, y, b2, mb2, c, s, t2, st, tl, rfl, rfl, rfl, hk6, hkl, hct, hs⟩ := hrel
    have HS := Lib.hid hs
    by_cases hk1 : k < len
    · have hk1' : (k : Int) < len := by omega
      by_cases hk2 : k < 30
      · have hk2' : (k : Int) < 30 := by omega
        have hk30 : k + 1 ≤ 30 := by omega
        have hkl1 : k + 1 ≤ len := by omega
        have hmeas : 30 - (k + 1) < 30 - k := by omega
        obtain ⟨blk, off, g, A1, n1, kk1, A2, kk2, rfl, hsg⟩ := hp.at hk1
        have HSG := Lib.hid hsg
        obtain ⟨p0, p1, p2, p3, p4, p5, p6, p7, p8⟩ := hsg.cells hs.kp
        have HM := may_any wr g A1 A2 n1 kk1 g.data.length kk2 (hsg.row hs.kp).1 (hsg.row hs.kp).2
        unfold segV at HM
        clear hs hsg
        go_wp2_with fail
        refine HM.mono ?_
        clear HM
        rintro e w2 ⟨rfl, k2⟩
        have HS2 := Lib.hid (HS.out.keep0 k2)
        clear k2 p0 p1 p2 p3 p4 p5 p6 p7 p8
        cases hmay : mayB g.ops g.data.length
        · clear hmay
          go_wp2_with fail
          exact ⟨⟨k + 1, mb, y, b2, mb2, c, s, t2, st, tl, rfl, rfl, rfl, hk30, hkl1, hct, HS2.out⟩, hmeas⟩
        · have hlen := may_len hmay HSG.out.len
          clear hmay
          have HLN := Lib.hid hlen
          have OG := Lib.hid (HSG.out.ok hlen)
          clear hlen
          obtain ⟨p0, p1, p2, p3, p4, p5, p6, p7, p8⟩ := HSG.out.cells HS2.out.kp
          go_wp2_with fail
          have HK := etake_all HS2.out.e.cx HS2.out.e.st23 g OG.out A1 A2 n1 kk1 kk2 (HSG.out.row HS2.out.kp).2 (by have := HLN.out; omega) (k : Int)
          unfold segV at HK
          refine HK.mono ?_
          clear HK
          rintro e w3 ⟨v1, rfl, hb1⟩
          obtain ⟨A3, n3, c3, rfl, hn3⟩ := hb1.told
          have K3 := Lib.hid (hb1.kp HS2.out.e.cx HS2.out.kp)
          have HB1 := Lib.hid hb1
          clear hb1 p0 p1 p2 p3 p4 p5 p6 p7 p8
          obtain ⟨p0, p1, p2, p3, p4, p5, p6, p7, p8⟩ := HSG.out.cells K3.out
          go_wp2_with fail
          have HK := etake_all (HS2.out.e.first HB1.out) HS2.out.e.st23 g OG.out A1 A2 n1 kk1 kk2 (HSG.out.row K3.out).2 (by have := HLN.out; omega) (k : Int)
          rw [sameK_beside] at HK
          unfold segV at HK
          refine HK.mono ?_
          clear HK
          rintro e w4 ⟨v2, rfl, hb2⟩
          obtain ⟨sx, mbx, mby, ty, st', tl', is, hs4, hle, ht1, ht2, h2nd⟩ := HS2.out.both OG.out HLN.out HB1.out hb2
          obtain ⟨A4, n4, c4, rfl, hn4⟩ := hb2.told
          have HS4 := Lib.hid hs4
          have TO1 := Lib.hid ht1
          have TO2 := Lib.hid ht2
          have H2ND := Lib.hid h2nd
          have hct' : c ≤ tl'.length := Nat.le_trans hct hle
          clear hb2 hs4 ht1 ht2 h2nd hle p0 p1 p2 p3 p4 p5 p6 p7 p8 HB1 K3 HS2 HS hct
          obtain ⟨bx, hbx⟩ : ∃ z : ByteArray, (⟨tl'.toArray⟩ : ByteArray) = z := ⟨_, rfl⟩
          have HBX := Lib.hid hbx
          have HX1 := Lib.hid (show 1 ≤ sx.st by have := HS4.out.e.cx.st2; omega)
          clear hbx
          go_upto_region 14 with fail
          go_cut [103] from 38 to 169 (fun bv wx => bv = .bool false ∧ Hid (Keeps [] w4 wx))
          case first =>
            as_aux_lemma =>
              refine wp_region_held_drew (S := fun W => Keeps [] w4 W) (by kernel_rfl) (Keeps.drew [] w4) (fun hHeld => ?_)
              refine wpAnyH_take (i := 0) (oi := _) (v := ?v1) rfl (by kernel_rfl) (by kernel_rfl) (by kernel_rfl) (fun _ _ _ h => h) (Or.inl ⟨by rfl, ?hy1⟩) (by assumption) ?rest1
              case hy1 => (intro w hSw; (try dsimp only at hSw); go_simp; try (with_reducible rfl))
              try simp only [List.getElem_toArray, List.getElem_cons_zero, List.getElem_cons_succ, Act.put, List.setIfInBounds_toArray, List.set_cons_zero, List.set_cons_succ]
              refine wpAnyH_take (i := 1) (oi := _) (v := ?v2) rfl (by kernel_rfl) (by kernel_rfl) (by kernel_rfl) (fun _ _ _ h => h) (Or.inl ⟨by rfl, ?hy2⟩) (by assumption) ?rest2
              case hy2 => (intro w hSw; (try dsimp only at hSw); go_simp; try (with_reducible rfl))
              try simp only [List.getElem_toArray, List.getElem_cons_zero, List.getElem_cons_succ, Act.put, List.setIfInBounds_toArray, List.set_cons_zero, List.set_cons_succ]
              refine wpAnyH_take (i := 2) (oi := _) (v := ?v3) rfl (by kernel_rfl) (by kernel_rfl) (by kernel_rfl) (fun _ _ _ h => h) (Or.inl ⟨by rfl, ?hy3⟩) (by assumption) ?rest3
              case hy3 => (intro w hSw; (try dsimp only at hSw); go_simp; try (with_reducible rfl))
              try simp only [List.getElem_toArray, List.getElem_cons_zero, List.getElem_cons_succ, Act.put, List.setIfInBounds_toArray, List.set_cons_zero, List.set_cons_succ]
              refine wpAnyH_take (i := 3) (oi := _) (v := ?v4) rfl (by kernel_rfl) (by kernel_rfl) (by kernel_rfl) (fun _ _ _ h => h) (Or.inl ⟨by rfl, ?hy4⟩) (by assumption) ?rest4
              case hy4 => (intro w hSw; (try dsimp only at hSw); go_simp; try (with_reducible rfl))
              try simp only [List.getElem_toArray, List.getElem_cons_zero, List.getElem_cons_succ, Act.put, List.setIfInBounds_toArray, List.set_cons_zero, List.set_cons_succ]
              refine wpAnyH_take (i := 4) (oi := _) (v := ?v5) rfl (by kernel_rfl) (by kernel_rfl) (by kernel_rfl) (fun _ _ _ h => h) (Or.inl ⟨by rfl, ?hy5⟩) (by assumption) ?rest5
              case hy5 => (intro w hSw; (try dsimp only at hSw); go_simp; try (with_reducible rfl))
              try simp only [List.getElem_toArray, List.getElem_cons_zero, List.getElem_cons_succ, Act.put, List.setIfInBounds_toArray, List.set_cons_zero, List.set_cons_succ]
              refine wpAnyH_take (i := 5) (oi := _) (v := ?v6) rfl (by kernel_rfl) (by kernel_rfl) (by kernel_rfl) (fun _ _ _ h => h) (Or.inl ⟨by rfl, ?hy6⟩) (by assumption) ?rest6
              case hy6 => (intro w hSw; (try dsimp only at hSw); go_simp; try (with_reducible rfl))
              try simp only [List.getElem_toArray, List.getElem_cons_zero, List.getElem_cons_succ, Act.put, List.setIfInBounds_toArray, List.set_cons_zero, List.set_cons_succ]
              refine wpAnyH_take (i := 6) (oi := _) (v := ?v7) rfl (by kernel_rfl) (by kernel_rfl) (by kernel_rfl) (fun _ _ _ h => h) (Or.inl ⟨by rfl, ?hy7⟩) (by assumption) ?rest7
              case hy7 => (intro w hSw; (try dsimp only at hSw); go_simp; try (with_reducible rfl))
              try simp only [List.getElem_toArray, List.getElem_cons_zero, List.getElem_cons_succ, Act.put, List.setIfInBounds_toArray, List.set_cons_zero, List.set_cons_succ]
              refine wpAnyH_take (i := 7) (oi := _) (v := ?v8) rfl (by kernel_rfl) (by kernel_rfl) (by kernel_rfl) (fun _ _ _ h => h) (Or.inl ⟨by rfl, ?hy8⟩) (by assumption) ?rest8
              case hy8 => (intro w hSw; (try dsimp only at hSw); go_simp; try (with_reducible rfl))
              try simp only [List.getElem_toArray, List.getElem_cons_zero, List.getElem_cons_succ, Act.put, List.setIfInBounds_toArray, List.set_cons_zero, List.set_cons_succ]
              refine wpAnyH_take (i := 8) (oi := _) (v := ?v9) rfl (by kernel_rfl) (by kernel_rfl) (by kernel_rfl) (fun _ _ _ h => h) (Or.inl ⟨by rfl, ?hy9⟩) (by assumption) ?rest9
              case hy9 => (intro w hSw; (try dsimp only at hSw); go_simp; try (with_reducible rfl))
              try simp only [List.getElem_toArray, List.getElem_cons_zero, List.getElem_cons_succ, Act.put, List.setIfInBounds_toArray, List.set_cons_zero, List.set_cons_succ]
              refine wpAnyH_ready (rs := [9]) (by kernel_rfl) (by simp) ?_
              refine AllReadyH.cons (o := _) rfl (fun K hK => ?_) AllReadyH.nil
              simp only [List.getElem_toArray, List.getElem_cons_zero, List.getElem_cons_succ]
              go_simp
              refine (lsame_told _ (TO1.out.mono (Keeps.drew [] w4) (Nat.le_refl _)) (TO2.out.mono (Keeps.drew [] w4) (Nat.le_refl _))).mono ?_
              rintro e w5 ⟨rfl, k5⟩
              have kk5 : Keeps [] w4 w5 := (Keeps.drew [] w4).trans k5
              clear k5 hHeld
              refine hK.out _ _ (kk5) (fun hHeld => ?_)
              clear hK K
              try simp only [List.getElem_toArray, List.getElem_cons_zero, List.getElem_cons_succ, Act.put, List.setIfInBounds_toArray, List.set_cons_zero, List.set_cons_succ]
              refine wpAnyH_take (i := 10) (oi := _) (v := ?v10) rfl (by kernel_rfl) (by kernel_rfl) (by kernel_rfl) (fun _ _ _ h => h) (Or.inl ⟨by rfl, ?hy10⟩) (by assumption) ?rest10
              case hy10 => (intro w hSw; (try dsimp only at hSw); go_simp; try (with_reducible rfl))
              try simp only [List.getElem_toArray, List.getElem_cons_zero, List.getElem_cons_succ, Act.put, List.setIfInBounds_toArray, List.set_cons_zero, List.set_cons_succ]
              refine wpAnyH_take (i := 11) (oi := _) (v := ?v11) rfl (by kernel_rfl) (by kernel_rfl) (by kernel_rfl) (fun _ _ _ h => h) (Or.inl ⟨by rfl, ?hy11⟩) (by assumption) ?rest11
              case hy11 => (intro w hSw; (try dsimp only at hSw); go_simp; try (with_reducible rfl))
              try simp only [List.getElem_toArray, List.getElem_cons_zero, List.getElem_cons_succ, Act.put, List.setIfInBounds_toArray, List.set_cons_zero, List.set_cons_succ]
              refine wpAnyH_take (i := 12) (oi := _) (v := ?v12) rfl (by kernel_rfl) (by kernel_rfl) (by kernel_rfl) (fun _ _ _ h => h) (Or.inl ⟨by rfl, ?hy12⟩) (by assumption) ?rest12
              case hy12 => (intro w hSw; (try dsimp only at hSw); go_simp; try (with_reducible rfl))
              try simp only [List.getElem_toArray, List.getElem_cons_zero, List.getElem_cons_succ, Act.put, List.setIfInBounds_toArray, List.set_cons_zero, List.set_cons_succ]
              refine wpAnyH_take (i := 13) (oi := _) (v := ?v13) rfl (by kernel_rfl) (by kernel_rfl) (by kernel_rfl) (fun _ _ _ h => h) (Or.inl ⟨by rfl, ?hy13⟩) (by assumption) ?rest13
              case hy13 => (intro w hSw; (try dsimp only at hSw); go_simp; try (with_reducible rfl))
              try simp only [List.getElem_toArray, List.getElem_cons_zero, List.getElem_cons_succ, Act.put, List.setIfInBounds_toArray, List.set_cons_zero, List.set_cons_succ]
              refine wpAnyH_take (i := 15) (oi := _) (v := ?v14) rfl (by kernel_rfl) (by kernel_rfl) (by kernel_rfl) (fun _ _ _ h => h) (Or.inl ⟨by rfl, ?hy14⟩) (by assumption) ?rest14
              case hy14 => (intro w hSw; (try dsimp only at hSw); go_simp; try (with_reducible rfl))
              try simp only [List.getElem_toArray, List.getElem_cons_zero, List.getElem_cons_succ, Act.put, List.setIfInBounds_toArray, List.set_cons_zero, List.set_cons_succ]
              refine wpAnyH_ready (rs := [14]) (by kernel_rfl) (by simp) ?_
              refine AllReadyH.cons (o := _) rfl (fun K hK => ?_) AllReadyH.nil
              simp only [List.getElem_toArray, List.getElem_cons_zero, List.getElem_cons_succ]
              go_simp
              refine (estate_any (HS4.out.e.cx.e.keep0 kk5) HX1.out).mono ?_
              rintro e w6 ⟨rfl, rfl⟩
              clear hHeld
              refine hK.out _ _ (kk5) (fun hHeld => ?_)
              clear hK K
              try simp only [List.getElem_toArray, List.getElem_cons_zero, List.getElem_cons_succ, Act.put, List.setIfInBounds_toArray, List.set_cons_zero, List.set_cons_succ]
              refine wpAnyH_ready (rs := [16]) (by kernel_rfl) (by simp) ?_
              refine AllReadyH.cons (o := _) rfl (fun K hK => ?_) AllReadyH.nil
              simp only [List.getElem_toArray, List.getElem_cons_zero, List.getElem_cons_succ]
              go_simp
              refine (estate_beside (HS4.out.e.cy.e.keep0 kk5) HX1.out).mono ?_
              rintro e w6 ⟨rfl, rfl⟩
              clear hHeld
              refine hK.out _ _ (kk5) (fun hHeld => ?_)
              clear hK K
              try simp only [List.getElem_toArray, List.getElem_cons_zero, List.getElem_cons_succ, Act.put, List.setIfInBounds_toArray, List.set_cons_zero, List.set_cons_succ]
              refine wpAnyH_take (i := 17) (oi := _) (v := ?v15) rfl (by kernel_rfl) (by kernel_rfl) (by kernel_rfl) (fun _ _ _ h => h) (Or.inl ⟨by rfl, ?hy15⟩) (by assumption) ?rest15
              case hy15 => (intro w hSw; (try dsimp only at hSw); go_simp; try (with_reducible rfl))
              try simp only [List.getElem_toArray, List.getElem_cons_zero, List.getElem_cons_succ, Act.put, List.setIfInBounds_toArray, List.set_cons_zero, List.set_cons_succ]
              refine wpAnyH_take (i := 18) (oi := _) (v := ?v16) rfl (by kernel_rfl) (by kernel_rfl) (by kernel_rfl) (fun _ _ _ h => h) (Or.inl ⟨by rfl, ?hy16⟩) (by assumption) ?rest16
              case hy16 => (intro w hSw; (try dsimp only at hSw); go_simp; try (with_reducible rfl))
              try simp only [List.getElem_toArray, List.getElem_cons_zero, List.getElem_cons_succ, Act.put, List.setIfInBounds_toArray, List.set_cons_zero, List.set_cons_succ]
              refine wpAnyH_take (i := 19) (oi := _) (v := ?v17) rfl (by kernel_rfl) (by kernel_rfl) (by kernel_rfl) (fun _ _ _ h => h) (Or.inl ⟨by rfl, ?hy17⟩) (by assumption) ?rest17
              case hy17 => (intro w hSw; (try dsimp only at hSw); go_simp; try (with_reducible rfl))
              try simp only [List.getElem_toArray, List.getElem_cons_zero, List.getElem_cons_succ, Act.put, List.setIfInBounds_toArray, List.set_cons_zero, List.set_cons_succ]
              refine wpAnyH_take (i := 20) (oi := _) (v := ?v18) rfl (by kernel_rfl) (by kernel_rfl) (by kernel_rfl) (fun _ _ _ h => h) (Or.inl ⟨by rfl, ?hy18⟩) (by assumption) ?rest18
              case hy18 => (intro w hSw; (try dsimp only at hSw); go_simp; try (with_reducible rfl))
              try simp only [List.getElem_toArray, List.getElem_cons_zero, List.getElem_cons_succ, Act.put, List.setIfInBounds_toArray, List.set_cons_zero, List.set_cons_succ]
              refine wpAnyH_take (i := 23) (oi := _) (v := ?v19) rfl (by kernel_rfl) (by kernel_rfl) (by kernel_rfl) (fun _ _ _ h => h) (Or.inl ⟨by rfl, ?hy19⟩) (by assumption) ?rest19
              case hy19 => (intro w hSw; (try dsimp only at hSw); go_simp; try (with_reducible rfl))
              try simp only [List.getElem_toArray, List.getElem_cons_zero, List.getElem_cons_succ, Act.put, List.setIfInBounds_toArray, List.set_cons_zero, List.set_cons_succ]
              refine wpAnyH_ready (rs := [21]) (by kernel_rfl) (by simp) ?_
              refine AllReadyH.cons (o := _) rfl (fun K hK => ?_) AllReadyH.nil
              simp only [List.getElem_toArray, List.getElem_cons_zero, List.getElem_cons_succ]
              go_simp
              refine (ebytes_cli (HS4.out.e.cx.keep0 kk5)).mono ?_
              rintro e wa ⟨Aa, ca, rfl, ba, ka⟩
              have kka : Keeps [] w4 wa := kk5.trans ka
              have BA := Lib.hid ba
              have hsa : ∀ W, Keeps [] wa W → (convert 37 9 (.slice Aa tl'.length ca)).run Tryz.prog W = .ok (.string bx) W := fun W k => by rw [← HBX.out]; exact (BA.out.keep0 k).str0 (P := Tryz.prog) 37 9 5 Tryz.underlying37 Tryz.underlying5 Tryz.underlying9
              clear ka ba hHeld
              refine hK.out _ _ (kka) (fun hHeld => ?_)
              clear hK K
              try simp only [List.getElem_toArray, List.getElem_cons_zero, List.getElem_cons_succ, Act.put, List.setIfInBounds_toArray, List.set_cons_zero, List.set_cons_succ]
              refine wpAnyH_mono (S' := fun W => Keeps [] wa W) (fun W k => kka.trans k) _ _ _ _ ?_
              have hHeldB : Keeps [] wa wa := Keeps.refl _ _
              refine wpAnyH_take (i := 22) (oi := _) (v := ?v20) rfl (by kernel_rfl) (by kernel_rfl) (by kernel_rfl) (fun _ _ _ h => h) (Or.inl ⟨by rfl, ?hy20⟩) (by assumption) ?rest20
              case hy20 => (intro w hSw; (try dsimp only at hSw); go_simp; try (with_reducible rfl))
              try simp only [List.getElem_toArray, List.getElem_cons_zero, List.getElem_cons_succ, Act.put, List.setIfInBounds_toArray, List.set_cons_zero, List.set_cons_succ]
              refine wpAnyH_ready (rs := [24]) (by kernel_rfl) (by simp) ?_
              refine AllReadyH.cons (o := _) rfl (fun K hK => ?_) AllReadyH.nil
              simp only [List.getElem_toArray, List.getElem_cons_zero, List.getElem_cons_succ]
              go_simp
              refine (ebytes_cli (HS4.out.e.cy.keep0 kka)).mono ?_
              rintro e wb ⟨Ab, cb, rfl, bb, kb⟩
              have kkb : Keeps [] w4 wb := kka.trans kb
              have BB := Lib.hid bb
              have kab := kb
              clear kb bb hHeldB
              refine hK.out _ _ (kab) (fun hHeld => ?_)
              clear hK K
              try simp only [List.getElem_toArray, List.getElem_cons_zero, List.getElem_cons_succ, Act.put, List.setIfInBounds_toArray, List.set_cons_zero, List.set_cons_succ]
              have hsb : ∀ W, Keeps [] wb W → (convert 37 9 (.slice Ab tl'.length cb)).run Tryz.prog W = .ok (.string bx) W := fun W k => by rw [← HBX.out]; exact (BB.out.keep0 k).str0 (P := Tryz.prog) 37 9 5 Tryz.underlying37 Tryz.underlying5 Tryz.underlying9
              refine wpAnyH_mono (S' := fun W => Keeps [] wb W) (fun W k => kab.trans k) _ _ _ _ ?_
              have hHeldC : Keeps [] wb wb := Keeps.refl _ _
              refine wpAnyH_take (i := 25) (oi := _) (v := ?v21) rfl (by kernel_rfl) (by kernel_rfl) (by kernel_rfl) (fun _ _ _ h => h) (Or.inl ⟨by rfl, ?hy21⟩) (by assumption) ?rest21
              case hy21 => (intro w hSw; (try dsimp only at hSw); go_simp; try (with_reducible rfl))
              try simp only [List.getElem_toArray, List.getElem_cons_zero, List.getElem_cons_succ, Act.put, List.setIfInBounds_toArray, List.set_cons_zero, List.set_cons_succ]
              refine wpAnyH_take (i := 26) (oi := _) (v := ?v22) rfl (by kernel_rfl) (by kernel_rfl) (by kernel_rfl) (fun _ _ _ h => h) (Or.inl ⟨by rfl, ?hy22⟩) (by assumption) ?rest22
              case hy22 => (intro w hSw; (try dsimp only at hSw); go_simp; try (with_reducible rfl))
              try simp only [List.getElem_toArray, List.getElem_cons_zero, List.getElem_cons_succ, Act.put, List.setIfInBounds_toArray, List.set_cons_zero, List.set_cons_succ]
              refine wpAnyH_take (i := 27) (oi := _) (v := ?v23) rfl (by kernel_rfl) (by kernel_rfl) (by kernel_rfl) (fun _ _ _ h => h) (Or.inl ⟨by rfl, ?hy23⟩) (by assumption) ?rest23
              case hy23 => (intro w hSw; (try dsimp only at hSw); go_simp; try (with_reducible rfl))
              try simp only [List.getElem_toArray, List.getElem_cons_zero, List.getElem_cons_succ, Act.put, List.setIfInBounds_toArray, List.set_cons_zero, List.set_cons_succ]
              refine wpAnyH_done (by kernel_rfl) ?_ _
              go_wp2_with fail
              go_meet
              exact ⟨rfl, Lib.hid kkb⟩
          case rest =>
            obtain ⟨rfl, hk5⟩ := hcut
            have HS5 := Lib.hid (HS4.out.keep0 hk5.out)
            generalize hwz : wc = w5 at *
            clear hwz hk5 HS4 TO1 TO2
            go_wp2_with fail
            refine (ebytes_cli HS5.out.e.cx).mono ?_
            rintro e w6 ⟨A6, c6, rfl, hb6, k6⟩
            have HS6 := Lib.hid (HS5.out.keep0 k6)
            have hs6 := (show (convert 37 9 (.slice A6 tl'.length c6)).run Tryz.prog w6 = .ok (.string bx) w6 by rw [← HBX.out]; exact (hb6).str0 (P := Tryz.prog) 37 9 5 Tryz.underlying37 Tryz.underlying5 Tryz.underlying9)
            clear hb6 k6 HS5
            obtain ⟨p0, p1, p2, p3, p4, p5, p6, p7, p8⟩ := HSG.out.cells HS6.out.kp
            go_wp2_with fail
            have HK := etake_all HS6.out.e.cy HS6.out.e.st23 g OG.out A1 A2 n1 kk1 kk2 (HSG.out.row HS6.out.kp).2 (by have := HLN.out; omega) (k : Int)
            unfold segV at HK
            refine HK.mono ?_
            clear HK
            rintro e w7 ⟨v3, rfl, hb7⟩
            obtain ⟨cx7, ⟨mb3, sy, st3, cy7⟩, kp7, A7, n7, c7, rfl, hn7⟩ := HS6.out.again (H2ND.out _ _) hb7
            have CX7 := Lib.hid cx7
            have CY7 := Lib.hid cy7
            have KP7 := Lib.hid kp7
            have HI7 := Lib.hid (And.intro HS6.out.hiss HS6.out.hf)
            have HR7 := Lib.hid (And.intro HS6.out.e.st23 HS6.out.e.rdy)
            have hn7' : decide (1 < (n7 : Int)) = false := decide_eq_false (by omega)
            have hn3' : decide (1 < (n3 : Int)) = false := decide_eq_false (by omega)
            have hn7'' : decide (1 < n7) = false := decide_eq_false (by omega)
            have hn3'' : decide (1 < n3) = false := decide_eq_false (by omega)
            clear hb7 cx7 cy7 kp7 p0 p1 p2 p3 p4 p5 p6 p7 p8 hs6 HS6 H2ND
            go_upto_region 18 with fail
            go_cut [136] from 38 to 169 (fun bv wx => bv = .bool false ∧ Hid (Keeps [] w7 wx))
            case first =>
              as_aux_lemma =>
                go_wp2_with fail
                refine (ebytes_cli CY7.out).mono ?_
                rintro e wb ⟨Ab, cb, rfl, bb, kb⟩
                have KB := Lib.hid kb
                have hsb := (show (convert 37 9 (.slice Ab tl'.length cb)).run Tryz.prog wb = .ok (.string bx) wb by rw [← HBX.out]; exact (bb).str0 (P := Tryz.prog) 37 9 5 Tryz.underlying37 Tryz.underlying5 Tryz.underlying9)
                clear kb bb
                go_wp2_with fail
                go_meet
                exact ⟨rfl, KB⟩
            case rest =>
              obtain ⟨rfl, hk8⟩ := hcut
              have CX8 := Lib.hid (CX7.out.keep0 hk8.out)
              have KP8 := Lib.hid (KP7.out.trans hk8.out)
              generalize hwz : wc = w8 at *
              clear hwz hk8 CX7 KP7 CY7 hn7' hn3' hn7'' hn3''
              go_wp2_with fail
              refine (estate_any CX8.out.e HX1.out).mono ?_
              rintro e w9 ⟨rfl, rfl⟩
              go_upto_if 139 with fail
              go_cut [11] from 38 to 169 (fun lv wx => ∃ c' : Nat, lv = .int .u32 (addI F1 c') ∧ c' ≤ tl'.length ∧ Hid (Keeps [] w8 wx))
              case first =>
                as_aux_lemma =>
                  have h23 := HR7.out.1
                  rcases h23 with h23 | h23
                  · have e1 : (sx.st == 2) = true := by simpa using h23
                    clear h23
                    go_wp2_with fail
                    have HA := eackC_any CX8.out.e CX8.out.ok CX8.out.st2 CX8.out.inp CX8.out.bf CX8.out.okb
                    unfold segV ES.ackC at HA
                    obtain ⟨na, hna⟩ : ∃ na, st'.next = na := ⟨_, rfl⟩
                    obtain ⟨ia, hia⟩ : ∃ ia, (sx.iss + 1) % 4294967296 = ia := ⟨_, rfl⟩
                    have hna2 : na = addI F1 tl'.length := by rw [← hna, CX8.out.len, ← HI7.out.2]; rfl
                    have hlt : tl'.length ≤ 16384 := by have := CX8.out.len; have := CX8.out.okb.tr; have := CX8.out.okb.r; omega
                    have hw6 : IntKind.u32.wrap (iss + 1) = ia := by rw [← hia, HI7.out.1]; exact IntKind.wrap_u32 _
                    have hw2 : IntKind.u32.wrap (irs + 1) = F1 := by rw [← HF.out]; exact IntKind.wrap_u32 _
                    have hw5 : IntKind.u32.wrap (F1 + tl'.length) = na := by rw [hna2]; exact IntKind.wrap_u32 _
                    have hw7 : IntKind.u32.wrap (tl'.length : Int) = tl'.length := by rw [IntKind.wrap_u32]; omega
                    obtain ⟨hw8, hw9, hw10⟩ := sub_ack (F1 := F1) tl'.length c hct' hlt
                    rw [← hna2] at hw8
                    have hbs : bx.size = tl'.length := by rw [← HBX.out]; simp [ByteArray.size]
                    rw [hna, hia] at HA
                    obtain ⟨wq, hwq⟩ : ∃ wq, tellW sx (st'.room - st'.taken) = wq := ⟨_, rfl⟩
                    rw [hwq] at HA
                    obtain ⟨lo, hlo⟩ : ∃ lo, sx.loc = lo := ⟨_, rfl⟩
                    obtain ⟨rm, hrm⟩ : ∃ rm, sx.rem = rm := ⟨_, rfl⟩
                    rw [hlo, hrm] at HA
                    have HNA := Lib.hid hna2
                    clear hna hia hna2 hwq hlo hrm
                    refine HA.mono ?_
                    clear HA
                    rintro e wa ⟨rfl, ka⟩
                    go_upto_region 22 with fail
                    refine wp_gn (fun W10 hW10 => ?_)
                    have ho10 : W10.heap[wa.heap.size]? = some (.cells #[.int .u16 lo, .int .u16 rm, .int .u32 ia, .int .u32 na, .int .u8 16, .int .u16 wq, .int .u16 0, .slice none 0 0, .slice none 0 0] 39 (0, 0)) := by rw [hW10]; exact (MapKept.heap_alloc wa _).1
                    have K10 := Lib.hid (show Keeps [] w8 W10 by rw [hW10]; exact ka.alloc' _)
                    have ho10c0 := cell_of_block ho10 0
                    have ho10c1 := cell_of_block ho10 1
                    have ho10c2 := cell_of_block ho10 2
                    have ho10c3 := cell_of_block ho10 3
                    have ho10c4 := cell_of_block ho10 4
                    have ho10c5 := cell_of_block ho10 5
                    have ho10c6 := cell_of_block ho10 6
                    have ho10c7 := cell_of_block ho10 7
                    have ho10c8 := cell_of_block ho10 8
                    simp at ho10c0 ho10c1 ho10c2 ho10c3 ho10c4 ho10c5 ho10c6 ho10c7 ho10c8
                    clear hW10 ho10 ka
                    go_wp2_with fail
                    go_meet
                    exact ⟨tl'.length, by rw [HNA.out], Nat.le_refl _, K10⟩
                  · have e1 : (sx.st == 2) = false := by simp [h23]
                    clear h23
                    go_wp2_with fail
                    go_meet
                    exact ⟨c, rfl, hct', Lib.hid (Keeps.refl _ _)⟩
              case rest =>
                obtain ⟨c', rfl, hc', hk9⟩ := hcut
                have CX9 := Lib.hid (CX8.out.keep0 hk9.out)
                have KP9 := Lib.hid (KP8.out.trans hk9.out)
                generalize hwz : wc = w9 at *
                clear hwz hk9 CX8 KP8
                go_wp2_with fail
                refine (ecopy_cli CX9.out).mono ?_
                rintro e w10 ⟨y', b3, mb4, t3, rfl, hy, k10, hfy⟩
                have HE := Lib.hid (EqAt.mk' CX9.out HR7.out.1 HR7.out.2 hy k10 hfy)
                have K10 := Lib.hid (KP9.out.trans k10)
                clear hy k10 hfy
                go_wp2_with fail
                exact ⟨⟨k + 1, mbx, y', b3, mb4, c', sx, t3, st', tl', rfl, rfl, rfl, hk30, hkl1, hc', ⟨HE.out, HI7.out.1, HI7.out.2, K10.out⟩⟩, hmeas⟩
      · have hk2' : ¬ ((k : Int) < 30) := by omega
        clear hk2 hs
        go_wp2_with fail
        refine (wakes_any _).mono ?_
        rintro e w2 ⟨rfl, hb⟩
        go_wp2_with fail
        go_ret
        exact ⟨rfl, HS.out.kp.trans (Keeps.trans (by with_reducible first | exact Keeps.refl _ _ | exact Keeps.drewN [] _ _) ⟨hb.os, hb.tape, hb.output, hb.size, fun j hj _ => hb.block j hj⟩)⟩
    · have hk2' : ¬ ((k : Int) < len) := by omega
      clear hk1 hs
      go_wp2_with fail
      refine (wakes_any _).mono ?_
      rintro e w2 ⟨rfl, hb⟩
      go_wp2_with fail
      go_ret
      exact ⟨rfl, HS.out.kp.trans (Keeps.trans (by with_reducible first | exact Keeps.refl _ _ | exact Keeps.drewN [] _ _) ⟨hb.os, hb.tape, hb.output, hb.size, fun j hj _ => hb.block j hj⟩)⟩
end Go.Proofs.YtakgohocimlagaaGreat

namespace Go.Proofs.YtakgohocimlagaaGreat
open Go.RowKit Go.ChangeShapes Go.WideShapes Go.ChangeAt Go.Joins
set_option linter.unusedVariables false
set_option maxRecDepth 100000 in
theorem open_u32 {H : Type} {enc : TypeId × Value → H} {W : World} {base : Nat} {sp : Nat → Bool} {held : Bool} {v : Value} {d : DataW H} {p : List MemPlace} {b0 : Nat} (o : Value.okWide Tryz.prog W .any b0 22 v) (h : DataW.Trod enc Tryz.prog W base sp held 22 v d p) :
    ∃ n : Int, v = .int .u32 n ∧ 0 ≤ n ∧ n ≤ 4294967295 := by
  obtain ⟨n, rfl, _, _, wn⟩ := open_int Tryz.underlying22 o h
  exact ⟨n, rfl, bounds_u32 wn⟩
set_option maxRecDepth 100000 in
theorem endpSame_typed {H : Type} (enc : TypeId × Value → H) (W : World) (base : Nat) {v0 v1 v2 : Value} {d0 d1 d2 : DataW H} {p0 p1 p2 : List MemPlace}
    (o0 : Value.okWide Tryz.prog W .any base 22 v0) (o1 : Value.okWide Tryz.prog W .any base 22 v1) (o2 : Value.okWide Tryz.prog W .any base 23 v2)
    (h0 : DataW.Trod enc Tryz.prog W 0 (fun _ => true) true 22 v0 d0 p0) (h1 : DataW.Trod enc Tryz.prog W 0 (fun _ => true) true 22 v1 d1 p1) (h2 : DataW.Trod enc Tryz.prog W 0 (fun _ => true) true 23 v2 d2 p2)
    (hwt : ∀ n ∈ d2.weights Tryz.prog 23, n ≤ reachBytes) :
    Calls Tryz.prog 3 #[v0, v1, v2] W fun e W' => e = .returned (.bool true) ∧ Below W.heap.size W W' := by
  obtain ⟨iss, rfl, a1⟩ := open_u32 o0 h0
  obtain ⟨irs, rfl, a2⟩ := open_u32 o1 h1
  obtain ⟨q, len, cap, rfl, hl, hp⟩ := open_segs o2 h2 hwt
  exact (same_walk W iss irs a1 a2 q len cap hl hp).mono fun e w' ⟨he, kk⟩ => ⟨he, kk.below (Nat.le_refl _) (by simp)⟩
/-- a plain row's frame, its bound on sizes handed on -/
theorem handed_sized {H : Type} {enc : TypeId × Value → H} {a : Assume} {C : Checked} {os : Os} {f : FuncId} {fn : Func} {s : ChangeSpec} {conds : List PathCond} {apart fresh handsOn again : Bool}
    (own : ownKnob C.prog.godebug = none) (started : os.Started) (noInit : C.prog.inits.idxOf? f = none) (hfn : C.prog.funcs[f]? = some fn)
    (wit : ∃ (w : World) (tape : Tape) (i : Input), w.os = os ∧ (w.forCall tape i).Shaped C.prog ∧ i.vars = [] ∧ Input.okWide C.prog (w.forCall tape i) .any w.heap.size f i ∧
      s.pre6 enc C.prog fn conds apart (w.forCall tape i).memory i.args ∧ a.holds C.prog (lone (Frame.enter C.prog f i.args .normal) [] (w.forCall tape i)))
    (con : ∀ (W : World) (base : Nat) (args : Array Value) (ds gs : List (DataW H)) (before : List MemPlace), (∀ (j : Nat) t v, fn.params[j]? = some t → args[j]? = some v → Value.okWide C.prog W .any base t v) →
      DataW.Whole enc C.prog fn.params.toList s.vars apart W args.toList ds gs before → (DataW.weightsEach C.prog (fn.params.toList ++ s.plain.varTypes C.prog) (ds ++ gs)).all (· ≤ reachBytes) = true →
      Calls C.prog f args W fun e W' => ∃ v, e = .returned v ∧ s.post enc C.prog fn apart fresh handsOn again W args v W') :
    ReturnsInHanded a C os f .any (s.pre6 enc C.prog fn conds apart) (s.post enc C.prog fn apart fresh handsOn again) := by
  have e : s.pre6 enc C.prog fn conds apart = fun w args => (s.pre enc C.prog fn conds apart w args ∧ True) ∧ sizedMet enc C.prog fn (OpenSpec.ofChange s) apart w args := by
    funext w args
    simp [ChangeSpec.pre6]
  rw [e] at wit ⊢
  exact returnsInHanded_of_change_and (X := fun _ _ => True) (fun _ _ _ _ h => h) own started noInit hfn wit (fun W base args ds gs before h1 h2 _ h4 _ _ => con W base args ds gs before h1 h2 h4)
end Go.Proofs.YtakgohocimlagaaGreat

