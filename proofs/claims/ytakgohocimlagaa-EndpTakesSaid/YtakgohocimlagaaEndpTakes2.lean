/-
  The walk of the law EndpTakes. Condition: the arguments are in the ranges of their kinds.
-/
import Derived.Test.YtakgohocimlagaaEpO
import Derived.Deep.CutBlock
namespace Go.Proofs.Ytakgohocimlagaa
open Go.RowKit
set_option linter.unusedVariables false
set_option linter.unusedSimpArgs false

/-- the loop's state -/
structure TkAt (W : World) (S : List UInt8) (iss irs : Int) (M x b sb : Nat) (wr : World) (s : ES) (st : BS) (tl : List UInt8) (mb : Nat) : Prop where
  c : Cli wr W.heap.size x b mb s st tl
  st2 : s.st = 2
  hiss : s.iss = iss
  hloc : s.loc = 1
  hrem : s.rem = 2
  hsscl : s.sscl = 7
  hscl : s.scl = 0
  inv : TInv S ((irs + 1) % 4294967296) M s.ended st tl
  hsb : wr.heap[sb]? = some (.cells #[.int .u16 1, .int .u16 2, .int .u32 iss, .int .u16 1460, .int .i64 7, .bool true, .int .i64 M, .int .u64 4, .int .i64 3] 28 (0, 0))
  sx : ∀ j ∈ footC x b mb s, j ≠ sb
  zs : W.heap.size ≤ sb
  kp : Keeps [] W wr
theorem TkAt.keep0 {W : World} {S : List UInt8} {iss irs : Int} {M x b sb : Nat} {wr w' : World} {s : ES} {st : BS} {tl : List UInt8} {mb : Nat} (h : TkAt W S iss irs M x b sb wr s st tl mb) (k : Keeps [] wr w') : TkAt W S iss irs M x b sb w' s st tl mb :=
  ⟨h.c.keep0 k, h.st2, h.hiss, h.hloc, h.hrem, h.hsscl, h.hscl, h.inv, (k.block _ (lt_of_block h.hsb) (by simp)).trans h.hsb, h.sx, h.zs, h.kp.trans k⟩

theorem TkAt.step {W : World} {S : List UInt8} {iss irs : Int} {M x b sb : Nat} {w w' : World} {s : ES} {st : BS} {tl : List UInt8} {mb : Nat} (h : TkAt W S iss irs M x b sb w s st tl mb) (hS : S.length ≤ 400) (hM : M < 500) {F tt : Nat} (h1 : F ≤ tt) (h2 : tt ≤ S.length)
    (g : Seg) (hq : g.sq = addI ((irs + 1) % 4294967296) F) (hd : g.data = (S.drop F).take (tt - F)) (h4 : has g.fl 4 = false) (hf : has g.fl 1 = true → tt = S.length) {v : Value} (hb : Behind w w' W.heap.size x b mb s st tl g (cliK s st g) v) :
    ∃ s' st' tl' mb' is, TkAt W S iss irs M x b sb w' s' st' tl' mb' ∧ tl.length ≤ tl'.length ∧ (cliK s st g ≠ 3 → tl' = tl) ∧ Told w.heap.size w' v is (s'.ackC st') := by
  obtain ⟨s', mb', hc, hs, ht, hk, hfo⟩ := hb
  have hk2 := cliK_le s st g h4
  have hfoot : ∀ j ∈ footC x b mb s, W.heap.size ≤ j := by
    intro j hj
    simp only [footC, List.mem_cons, Option.mem_toList] at hj
    rcases hj with h0 | h0 | h0 | h0
    · rw [h0]; exact h.c.zx
    · rw [h0]; exact h.c.zb
    · rw [h0]; exact h.c.zm
    · exact (h.c.own.lt j h0).1
  have hkp : Keeps [] W w' := ((h.kp.mono (T := footC x b mb s) (by simp)).trans hk).fresh (by intro j hj hlt; have := hfoot j hj; omega)
  have hsb : w'.heap[sb]? = w.heap[sb]? := hk.block sb (lt_of_block h.hsb) (fun hm => h.sx sb hm rfl)
  have I := h.inv.step (s := s) (by omega) (by omega) h1 h2 g hq hd hf (cliK s st g) s'.tak hk2
  have e : s'.st = 2 ∧ s'.iss = iss ∧ s'.loc = 1 ∧ s'.rem = 2 ∧ s'.sscl = 7 ∧ s'.scl = 0 := by
    rw [hs]
    unfold nEnd
    split
    · exact ⟨h.st2, h.hiss, h.hloc, h.hrem, h.hsscl, h.hscl⟩
    · first | exact ⟨h.st2, h.hiss, h.hloc, h.hrem, h.hsscl, h.hscl⟩ | (rw [if_neg hk2]; exact ⟨h.st2, h.hiss, h.hloc, h.hrem, h.hsscl, h.hscl⟩)
  refine ⟨s', _, _, mb', _, ⟨hc, e.1, e.2.1, e.2.2.1, e.2.2.2.1, e.2.2.2.2.1, e.2.2.2.2.2, ?_, hsb.trans h.hsb, fun j hj => ?_, h.zs, hkp⟩, nTl_le _ _ _ _, fun h3 => nTl_same h3 _ _ _, ht⟩
  · rw [hs]; exact I
  · rcases hfo j hj with h0 | h0
    · exact h.sx j h0
    · have := lt_of_block h.hsb
      omega

set_option maxRecDepth 100000 in
set_option maxHeartbeats 4000000 in
theorem takes_walk (W : World) (iss irs room : Int) (u0 : U32 iss) (u1 : U32 irs) (r0 : 0 ≤ room) (r1 : room ≤ 65535) (A0 : Option Addr) (n0 c0 : Nat) (l0 : List UInt8) (hb : BytesV W (.slice A0 n0 c0) l0) (q : Option Addr) (len cap : Nat) (hl : len ≤ maxLen) (hp : PiecesE W q len) :
    Calls Try.prog 3 #[.slice A0 n0 c0, .int .u32 iss, .int .u32 irs, .int .u16 room, .slice q len cap] W fun e w' => e = .returned (.bool true) ∧ Keeps [] W w' := by
  obtain ⟨hn0, hn1, hn2⟩ := hb.form
  subst hn0
  obtain ⟨S, hS⟩ : ∃ S, S = l0.take 400 := ⟨_, rfl⟩
  obtain ⟨n, hSn⟩ : ∃ n, S.length = n := ⟨_, rfl⟩
  have hSl : (min (l0.length : Int) 400).toNat = n := by rw [← hSn, hS]; simp; omega
  have hS4 : n ≤ 400 := by rw [← hSn, hS]; simp; omega
  have hSc : n ≤ c0 := by rw [← hSn, hS]; simp; omega
  have hbs : BytesV W (.slice A0 n c0) S := by
    have h1 : n ≤ l0.length := by rw [← hSn, hS]; simp; omega
    have := hb.upto h1
    rw [show l0.take n = S by rw [← hSn, hS]; simp [List.take_eq_take_iff]] at this
    exact this
  obtain ⟨M, hM⟩ : ∃ M : Nat, room % 500 = (M : Int) := ⟨(room % 500).toNat, by omega⟩
  have hM5 : M < 500 := by omega
  have HBS := Lib.hid hbs
  have HN := Lib.hid hSn
  clear hb hS hbs hSn
  go_enter Try.func3, Try.ntmps3
  go_upto_region 2 with fail
  go_wp2_with fail
  refine (setup_ok W).mono ?_
  rintro e w1 ⟨rfl, k1⟩
  unfold setupV
  have K1 := Lib.hid k1
  have hz1 := k1.size
  clear k1
  go_upto_region 3 with fail
  go_upto_region 4 with fail
  refine wp_gn (fun W3 hW3 => ?_)
  have k3 : Keeps [] w1 W3 := by rw [hW3]; exact Keeps.alloc _ _ _
  have hS3 : W3.heap[w1.heap.size]? = some (.cells #[.int .u16 1, .int .u16 2, .int .u32 iss, .int .u16 1460, .int .i64 7, .bool true, .int .i64 M, .int .u64 4, .int .i64 3] 28 (0, 0)) := by rw [hW3]; exact (MapKept.heap_alloc w1 _).1
  have K3 := Lib.hid (K1.out.trans k3)
  have HS3 := Lib.hid hS3
  clear hW3 k3
  generalize hsb : w1.heap.size = sb at *
  have hS3c0 := cell_of_block hS3 0
  have hS3c1 := cell_of_block hS3 1
  have hS3c2 := cell_of_block hS3 2
  have hS3c3 := cell_of_block hS3 3
  have hS3c4 := cell_of_block hS3 4
  have hS3c5 := cell_of_block hS3 5
  have hS3c6 := cell_of_block hS3 6
  have hS3c7 := cell_of_block hS3 7
  have hS3c8 := cell_of_block hS3 8
  simp at hS3c0 hS3c1 hS3c2 hS3c3 hS3c4 hS3c5 hS3c6 hS3c7 hS3c8
  clear hS3
  go_wp2_with fail
  have HA := eaccept_ok W3 1 2 iss 1460 7 true M 4 3 (by omega) (by omega) u0 (by omega) (by omega) (by omega) (by omega) (by omega) (by omega) (by omega) (by omega) (by omega) (by omega) 0 irs 0 0 0 u1 (by omega) (by omega)
  unfold setupV factsV at HA
  refine HA.mono ?_
  clear HA
  rintro e w4 ⟨x, b, mb, rfl, hc, k4⟩
  have hzW : W.heap.size ≤ W3.heap.size := K3.out.size
  have hsl : sb < W3.heap.size := lt_of_block HS3.out
  have hz1' : W.heap.size ≤ sb := hz1
  have hT : TkAt W S iss irs M x b sb w4 (acceptS 1 2 iss 1460 7 true M 4 3 irs 0 0 0 b) ⟨(irs + 1) % 4294967296, 0, M, []⟩ [] mb :=
    ⟨hc.lower hzW, rfl, rfl, rfl, rfl, rfl, rfl, TInv.start ⟨by omega, by omega⟩ (by omega), (k4.block sb hsl (by simp)).trans HS3.out, fun j hj => by
      have := hc.zx
      have := hc.zb
      have := hc.zm
      simp [footC, acceptS, Value.ownBlock] at hj
      omega, hz1', K3.out.trans k4⟩
  have HT := Lib.hid hT
  clear hT hc k4 HS3 K3 K1 hsb hsl hzW hz1 hz1' hS3c0 hS3c1 hS3c2 hS3c3 hS3c4 hS3c5 hS3c6 hS3c7 hS3c8
  go_wp2_with fail
  go_loopw [14] (fun iv wr => ∃ (k : Nat) (s : ES) (st : BS) (tl : List UInt8) (mb : Nat), iv = .int .i64 k ∧ k ≤ 60 ∧ k ≤ len ∧ TkAt W S iss irs M x b sb wr s st tl mb) (fun iv _ => 60 - (intOf iv).toNat)
  case atStart => exact ⟨0, _, _, _, _, rfl, by omega, by omega, HT.out⟩
  case round =>
    obtain ⟨k, s, st, tl, mb, rfl, hk6, hkl, hs⟩ := hrel
    clear HT
    have HS := Lib.hid hs
    by_cases hk1 : k < len
    · have hk1' : (k : Int) < len := by omega
      by_cases hk2 : k < 60
      · have hk2' : (k : Int) < 60 := by omega
        obtain ⟨blk, off, rfl, frm, long, odd, f0, f1, g0, g1, o0, o1, P0, P1, P2⟩ := hp.keep (Keeps.refl [] W) hk1
        have p0 := cell_keeps hs.kp P0 (by simp)
        have p1 := cell_keeps hs.kp P1 (by simp)
        have p2 := cell_keeps hs.kp P2 (by simp)
        have HPP := Lib.hid P2
        clear P0 P1 P2
        clear hs
        have hn1 : (n : Int) + 1 ≠ 0 := by omega
        have hw1 : IntKind.i64.wrap ((n : Int) + 1) = (n : Int) + 1 := IntWalk.i64_in _ (by omega)
        obtain ⟨F, hF⟩ : ∃ F : Nat, frm % ((n : Int) + 1) = F := ⟨(frm % ((n : Int) + 1)).toNat, by have := Int.emod_nonneg frm hn1; omega⟩
        have hFl : F ≤ n := by have := Int.emod_lt_of_pos frm (show (0 : Int) < (n : Int) + 1 by omega); omega
        obtain ⟨tt, htt⟩ : ∃ tt : Nat, min (n : Int) ((F : Int) + long % 80) = tt := ⟨(min (n : Int) ((F : Int) + long % 80)).toNat, by omega⟩
        have ht1 : F ≤ tt := by omega
        have ht2 : tt ≤ n := by omega
        have ht1' : (F : Int) ≤ tt := by omega
        have ht2' : (tt : Int) ≤ c0 := by omega
        have hFc' : (F : Int) ≤ c0 := by omega
        obtain ⟨X, hX⟩ : ∃ X, (if c0 = F then A0 else Option.map (fun x : Addr => x.add F) A0) = X := ⟨_, rfl⟩
        obtain ⟨F1, hF1⟩ : ∃ F1, (irs + 1) % 4294967296 = F1 := ⟨_, rfl⟩
        obtain ⟨sq, hsq⟩ : ∃ sq, addI F1 F = sq := ⟨_, rfl⟩
        obtain ⟨ia, hia⟩ : ∃ ia, (iss + 1) % 4294967296 = ia := ⟨_, rfl⟩
        have hw2 : IntKind.u32.wrap (irs + 1) = F1 := by rw [← hF1]; exact IntKind.wrap_u32 _
        have hw3 : IntKind.u32.wrap (F1 + F) = sq := by rw [← hsq]; exact IntKind.wrap_u32 _
        have hw4 : IntKind.u32.wrap (iss + 1) = ia := by rw [← hia]; exact IntKind.wrap_u32 _
        have HD := Lib.hid ((HBS.out.keep0 HS.out.kp).fromXe (k := F) (e := tt) ht1 ht2 hX)
        have HF := Lib.hid (And.intro hF1 (And.intro hsq hia))
        clear hF1 hsq hia
        go_upto_if 93 with fail
        go_cut [] from 46 to 265 (fun wx => ∃ fl : Int, (fl = 16 ∨ fl = 17) ∧ Hid (fl = 17 → tt = n) ∧ Hid (Keeps [] wr wx) ∧ wx.heap[wr.heap.size]? = some (.cells #[.int .u16 0, .int .u16 0, .int .u32 sq, .int .u32 ia, .int .u8 fl, .int .u16 7, .int .u16 0, .slice none 0 0, .slice X (tt - F) (c0 - F)] 40 (0, 0)))
        case first =>
          by_cases hfin : tt = n
          · have hfb : ((tt : Int) == (n : Int)) = true := by simp [hfin]
            have HFI := Lib.hid hfin
            clear hfin
            go_wp2_with fail
            go_meet
            exact ⟨17, .inr rfl, Lib.hid (fun _ => HFI.out), Lib.hid ((Keeps.refl _ _).alloc' _), (MapKept.heap_alloc wr _).1⟩
          · have hfb : ((tt : Int) == (n : Int)) = false := by simp; omega
            go_wp2_with fail
            go_meet
            exact ⟨16, .inl rfl, Lib.hid (fun h => by cases h), Lib.hid ((Keeps.refl _ _).alloc' _), (MapKept.heap_alloc wr _).1⟩
        case rest =>
          obtain ⟨fl, hfl, HFN, HKG, hg⟩ := hcut
          have FL0 := Lib.hid (fl_0 hfl)
          have FL1 := Lib.hid (fl_1 hfl)
          have FL3 := Lib.hid (fl_3 hfl)
          have HG := Lib.hid hg
          have p2' := cell_keeps HKG.out p2 (by simp)
          have hgc3 := cell_of_block hg 3
          have hgc4 := cell_of_block hg 4
          simp at hgc3 hgc4
          have hgf3 := free_of_block hg 3
          have hgf4 := free_of_block hg 4
          clear hg p0 p1
          have HDL := Lib.hid (show ((S.drop F).take (tt - F)).length = tt - F by have := HN.out; simp; omega)
          have US := Lib.hid (show U32 sq by rw [← HF.out.2.1]; exact addI_bd _ _)
          have UA := Lib.hid (show U32 ia by rw [← HF.out.2.2]; exact ⟨by omega, by omega⟩)
          have HP2 := Lib.hid p2
          have HWR := Lib.hid (And.intro hw2 hw4)
          clear p2 hw1 hw2 hw3 hw4
          have HU2 := Lib.hid (show U32 ((ia + 1) % 4294967296) from ⟨by omega, by omega⟩)
          have HNE := Lib.hid (show (ia + 1) % 4294967296 ≠ ia by have := UA.out.1; have := UA.out.2; omega)
          have hk60 : k + 1 ≤ 60 := by omega
          have hkl1 : k + 1 ≤ len := by omega
          have hmeas : 60 - (k + 1) < 60 - k := by omega
          go_upto_block 2 with fail
          go_cut [] from 46 to 265 (fun wx => ∃ AK FL : Int, U32 AK ∧ (has FL 4 = false ∧ (has FL 1 = true → fl = 17) ∧ 0 ≤ FL ∧ FL ≤ 255) ∧ Hid (0 < odd → odd < 4 → has FL 2 = true ∨ has FL 4 = false ∧ (has FL 16 = false ∨ AK ≠ ia)) ∧ Hid (Keeps [] wr wx) ∧ wx.heap[wr.heap.size]? = some (.cells #[.int .u16 0, .int .u16 0, .int .u32 sq, .int .u32 AK, .int .u8 FL, .int .u16 7, .int .u16 0, .slice none 0 0, .slice X (tt - F) (c0 - F)] 40 (0, 0)))
          case first =>
            as_aux_lemma =>
              have hodd : odd = 1 ∨ odd = 2 ∨ odd = 3 ∨ (odd = 0 ∨ 4 ≤ odd) := by omega
              rcases hodd with ho | ho | ho | ho
              · have e1 : (odd == 1) = true := by simpa using ho
                have HO := Lib.hid ho
                clear ho
                go_wp2_with fail
                go_meet
                exact ⟨ia, (bits .andNot .u8 fl 16), UA.out, ⟨FL1.out.1, FL1.out.2.2.1, FL1.out.2.2.2⟩, Lib.hid (fun _ _ => .inr ⟨FL1.out.1, .inl FL1.out.2.1⟩), Lib.hid (by first | exact HKG.out | exact HKG.out.setCell' (Or.inl (by simp)) _), by first | exact HG.out | exact heap_setCell_self HG.out _ _⟩
              · have e1 : (odd == 1) = false := by rw [ho]; rfl
                have e2 : (odd == 2) = true := by simpa using ho
                have hwa : IntKind.u32.wrap (ia + 1) = (ia + 1) % 4294967296 := IntKind.wrap_u32 _
                have HO := Lib.hid ho
                clear ho
                go_wp2_with fail
                go_meet
                exact ⟨((ia + 1) % 4294967296), fl, HU2.out, ⟨FL0.out.1, FL0.out.2.1, FL0.out.2.2⟩, Lib.hid (fun _ _ => .inr ⟨FL0.out.1, .inr HNE.out⟩), Lib.hid (by first | exact HKG.out | exact HKG.out.setCell' (Or.inl (by simp)) _), by first | exact HG.out | exact heap_setCell_self HG.out _ _⟩
              · have e1 : (odd == 1) = false := by rw [ho]; rfl
                have e2 : (odd == 2) = false := by rw [ho]; rfl
                have e3 : (odd == 3) = true := by simpa using ho
                have HO := Lib.hid ho
                clear ho
                go_wp2_with fail
                go_meet
                exact ⟨ia, (bits .or .u8 fl 2), UA.out, ⟨FL3.out.1, FL3.out.2.2.1, FL3.out.2.2.2⟩, Lib.hid (fun _ _ => .inl FL3.out.2.1), Lib.hid (by first | exact HKG.out | exact HKG.out.setCell' (Or.inl (by simp)) _), by first | exact HG.out | exact heap_setCell_self HG.out _ _⟩
              · have e1 : (odd == 1) = false := by simp; omega
                have e2 : (odd == 2) = false := by simp; omega
                have e3 : (odd == 3) = false := by simp; omega
                have HO := Lib.hid ho
                clear ho
                go_wp2_with fail
                go_meet
                exact ⟨ia, fl, UA.out, ⟨FL0.out.1, FL0.out.2.1, FL0.out.2.2⟩, Lib.hid (fun _ _ => by have := HO.out; omega), Lib.hid (by first | exact HKG.out | exact HKG.out.setCell' (Or.inl (by simp)) _), by first | exact HG.out | exact heap_setCell_self HG.out _ _⟩
          case rest =>
            as_aux_lemma =>
              obtain ⟨AK, FL, UAK, hFL, HODD, HK5, hg5⟩ := hcut
              have T5 := Lib.hid (HS.out.keep0 HK5.out)
              have HG5 := Lib.hid hg5
              have UK := Lib.hid UAK
              have HFL := Lib.hid hFL
              clear hg5 HG HKG hgc3 hgc4 hgf3 hgf4 UAK hFL p2'
              go_upto_region 22 with fail
              go_wp2_with fail
              refine (ebytes_cli T5.out.c).mono ?_
              rintro e w6 ⟨A6, c6, rfl, hb6, k6⟩
              have T6 := Lib.hid (T5.out.keep0 k6)
              have HG6 := Lib.hid ((k6.block _ (lt_of_block HG5.out) (by simp)).trans HG5.out)
              have K6 := Lib.hid (HK5.out.trans k6)
              clear hb6 k6 T5 HG5 HK5
              have hg6 := HG6.out
              have hg6c0 := cell_of_block hg6 0
              have hg6c1 := cell_of_block hg6 1
              have hg6c2 := cell_of_block hg6 2
              have hg6c3 := cell_of_block hg6 3
              have hg6c4 := cell_of_block hg6 4
              have hg6c5 := cell_of_block hg6 5
              have hg6c6 := cell_of_block hg6 6
              have hg6c7 := cell_of_block hg6 7
              have hg6c8 := cell_of_block hg6 8
              simp at hg6c0 hg6c1 hg6c2 hg6c3 hg6c4 hg6c5 hg6c6 hg6c7 hg6c8
              clear hg6
              go_wp2_with fail
              have HK := etake_cli T6.out.c T6.out.st2 ⟨0, 0, sq, AK, FL, 7, 0, [], (S.drop F).take (tt - F)⟩ ⟨by simp, by simp, US.out, UK.out, HFL.out.2.2, by simp, by simp, by simp only [HDL.out]; omega⟩ none X 0 0 (c0 - F) (by have := HD.out.keep0 K6.out; rw [← HDL.out] at this ⊢; simpa using this) (by rw [HDL.out]; omega) (k : Int)
              unfold segV at HK
              simp only [HDL.out] at HK
              refine HK.mono ?_
              clear HK
              rintro e w7 ⟨v, rfl, hbh⟩
              obtain ⟨s', st', tl', mb', is, t7, hle, hno, htold⟩ := T6.out.step (by rw [HN.out]; exact hS4) hM5 ht1 (by rw [HN.out]; exact ht2) ⟨0, 0, sq, AK, FL, 7, 0, [], (S.drop F).take (tt - F)⟩ (by show sq = _; rw [HF.out.1]; exact HF.out.2.1.symm) rfl HFL.out.1 (fun h1 => by rw [HN.out]; exact HFN.out (HFL.out.2.1 h1)) hbh
              have HSAME := Lib.hid (show 0 < odd → odd < 4 → tl' = tl from fun a b => hno (cliK_odd _ _ _ (by
                rcases HODD.out a b with h | ⟨h, h2⟩
                · exact .inl h
                · exact .inr ⟨h, h2.imp id (fun h3 => by show AK ≠ (s.iss + 1) % 4294967296; rw [T6.out.hiss, HF.out.2.2]; exact h3)⟩)))
              have T7 := Lib.hid t7
              have HPRE := Lib.hid t7.inv.pre
              have htn : (tl'.length : Int) ≤ n := by have := t7.inv.pre.2.1; rw [HN.out] at this; omega
              have htM : (tl'.length : Int) ≤ M := by have := t7.inv.pre.2.2.2.2.2; omega
              have htc : (tl'.length : Int) ≤ c0 := by omega
              have HLE := Lib.hid hle
              have HV := Lib.hid htold
              have hz6 := T6.out.kp.size
              clear t7 hbh htold hno hg6c0 hg6c1 hg6c2 hg6c3 hg6c4 hg6c5 hg6c6 hg6c7 hg6c8 T6 K6 HG6 HODD hle UK HFL
              go_wp2_with fail
              refine (ebytes_cli T7.out.c).mono ?_
              rintro e w8 ⟨A8, c8, rfl, hb8, k8⟩
              have T8 := Lib.hid (T7.out.keep0 k8)
              have hv8 : Told W.heap.size w8 v is (s'.ackC st') := HV.out.mono k8 hz6
              have HV8 := Lib.hid hv8
              have HB8 := Lib.hid hb8
              clear hv8 hb8 k8 T7 HV hz6
              go_upto_region 25 with fail
              go_cut [187] from 46 to 265 (fun bv wx => bv = .bool false ∧ Hid (Keeps [] w8 wx))
              case first =>
                as_aux_lemma =>
                  have hle := HLE.out
                  have d1 : decide ((tl'.length : Int) < tl.length) = false := decide_eq_false (by omega)
                  have d2 : decide ((n : Int) < tl'.length) = false := decide_eq_false (by omega)
                  have d3 : decide ((M : Int) < tl'.length) = false := decide_eq_false (by omega)
                  have d4 : decide (tl'.length < tl.length) = false := decide_eq_false (by omega)
                  have d5 : decide (n < tl'.length) = false := decide_eq_false (by omega)
                  have d6 : decide (M < tl'.length) = false := decide_eq_false (by omega)
                  have q8 := cell_keeps T8.out.kp HPP.out (by simp)
                  obtain ⟨bx, hbx⟩ : ∃ z : ByteArray, (⟨tl'.toArray⟩ : ByteArray) = z := ⟨_, rfl⟩
                  have hs1 : ∀ m, (convert 22 9 (.slice A8 tl'.length c8)).run Try.prog (w8.drewN m) = .ok (.string bx) (w8.drewN m) := fun m => by
                    rw [← hbx]
                    exact (HB8.out.keep0 (Keeps.drewN [] w8 m)).str0 (P := Try.prog) 22 9 5 Try.underlying22 Try.underlying5 Try.underlying9
                  have hs2 : ∀ m, (convert 22 9 (.slice A0 tl'.length c0)).run Try.prog (w8.drewN m) = .ok (.string bx) (w8.drewN m) := fun m => by
                    rw [← hbx]
                    have h := ((HBS.out.keep0 (T8.out.kp.trans (Keeps.drewN [] w8 m))).upto (k := tl'.length) (by omega))
                    rw [← HPRE.out.1] at h
                    exact h.str0 (P := Try.prog) 22 9 5 Try.underlying22 Try.underlying5 Try.underlying9
                  have hsb8 := T8.out.hsb
                  have hsb8c6 := cell_of_block hsb8 6
                  simp at hsb8c6
                  have hsb8f6 := free_of_block hsb8 6
                  clear hsb8 hbx
                  by_cases o1 : 0 < odd
                  · have z1 : decide (0 < odd) = true := decide_eq_true o1
                    by_cases o2 : odd < 4
                    · have z2 : decide (odd < 4) = true := decide_eq_true o2
                      have hsame := HSAME.out o1 o2
                      have z3 : ((tl'.length : Int) != tl.length) = false := by rw [hsame]; simp
                      have z4 : (tl'.length == tl.length) = true := by rw [hsame]; simp
                      have z5 : (tl'.length != tl.length) = false := by rw [hsame]; simp
                      clear hsame o1 o2
                      go_quiet (fail)
                      go_wp2_with fail
                      go_meet
                      exact ⟨rfl, Lib.hid (Keeps.drewN [] w8 _)⟩
                    · have z2 : decide (odd < 4) = false := decide_eq_false o2
                      clear o1 o2
                      go_quiet (fail)
                      go_wp2_with fail
                      go_meet
                      exact ⟨rfl, Lib.hid (Keeps.drewN [] w8 _)⟩
                  · have z1 : decide (0 < odd) = false := decide_eq_false o1
                    clear o1
                    go_quiet (fail)
                    go_wp2_with fail
                    go_meet
                    exact ⟨rfl, Lib.hid (Keeps.drewN [] w8 _)⟩
              case rest =>
                obtain ⟨rfl, hk8⟩ := hcut
                have hz8 := T8.out.kp.size
                have T9 := Lib.hid (T8.out.keep0 hk8.out)
                have HV9 := Lib.hid (HV8.out.mono hk8.out (Nat.le_refl _))
                generalize hwz : wc = w9 at *
                clear hwz HV8 T8 hk8 HB8 hz8 HSAME HLE
                go_upto_block 3 with fail
                go_cut [] from 46 to 265 (fun wx => Hid (Keeps [] w9 wx))
                case first =>
                  as_aux_lemma =>
                    rcases HV9.out with ⟨_, rfl⟩ | ⟨_, r, rfl, hr1, hr2⟩
                    · go_wp2_with fail
                      go_loopw [22] (fun jv wx => jv = .int .i64 0 ∧ Hid (Keeps [] w9 wx)) (fun _ _ => 0)
                      case atStart => exact ⟨rfl, Lib.hid (Keeps.refl [] w9)⟩
                      case round =>
                        obtain ⟨rfl, hk9⟩ := hrel
                        go_wp2_with fail
                        go_meet
                        exact hk9
                    · obtain ⟨na, hna⟩ : ∃ na, st'.next = na := ⟨_, rfl⟩
                      obtain ⟨wq, hwq⟩ : ∃ wq, ((M : Int) - tl'.length) / 2 ^ 7 = wq := ⟨_, rfl⟩
                      have hwq0 : 0 ≤ wq ∧ wq ≤ 500 := by omega
                      have hr3 : w9.heap[r]? = some (.cells #[.int .u16 1, .int .u16 2, .int .u32 ia, .int .u32 na, .int .u8 16, .int .u16 wq, .int .u16 0, .slice none 0 0, .slice none 0 0] 40 (0, 0)) := by
                        rw [hr2]
                        unfold ES.ackC segC tellW
                        rw [T9.out.hloc, T9.out.hrem, T9.out.hiss, T9.out.hscl, T9.out.hsscl, hna, HF.out.2.2, HPRE.out.2.2.1, HPRE.out.2.2.2.1]
                        have : min (((M : Int) - tl'.length) / 128) 65535 = wq := by have h128 : (2 : Int) ^ 7 = 128 := rfl; rw [h128] at hwq; omega
                        simp [this]
                      have hna2 : IntKind.u32.wrap (F1 + tl'.length) = na := by rw [← hna]; unfold BS.next addI; rw [HPRE.out.2.2.2.2.1, HPRE.out.2.2.1, HF.out.1]; exact IntKind.wrap_u32 _
                      have HR3 := Lib.hid hr3
                      clear hr2 hna hr3
                      go_wp2_with fail
                      go_loopw [22] (fun jv wx => ∃ j : Nat, jv = .int .i64 j ∧ j ≤ 1 ∧ Hid (Keeps [] w9 wx)) (fun jv _ => 1 - (intOf jv).toNat)
                      case atStart => exact ⟨0, rfl, by omega, Lib.hid (Keeps.refl [] w9)⟩
                      case round =>
                        obtain ⟨j, rfl, hj, hk9⟩ := hrel
                        by_cases hj0 : j = 0
                        · subst hj0
                          have TA := Lib.hid (T9.out.keep0 hk9.out)
                          have hrx := (hk9.out.block r (lt_of_block HR3.out) (by simp)).trans HR3.out
                          have hsb9 := TA.out.hsb
                          have hrxc0 := cell_of_block hrx 0
                          have hrxc1 := cell_of_block hrx 1
                          have hrxc2 := cell_of_block hrx 2
                          have hrxc3 := cell_of_block hrx 3
                          have hrxc4 := cell_of_block hrx 4
                          have hrxc5 := cell_of_block hrx 5
                          have hrxc6 := cell_of_block hrx 6
                          have hrxc7 := cell_of_block hrx 7
                          have hrxc8 := cell_of_block hrx 8
                          simp at hrxc0 hrxc1 hrxc2 hrxc3 hrxc4 hrxc5 hrxc6 hrxc7 hrxc8
                          have hsb9c0 := cell_of_block hsb9 0
                          have hsb9c1 := cell_of_block hsb9 1
                          have hsb9c6 := cell_of_block hsb9 6
                          simp at hsb9c0 hsb9c1 hsb9c6
                          have hsb9f0 := free_of_block hsb9 0
                          have hsb9f1 := free_of_block hsb9 1
                          have hsb9f6 := free_of_block hsb9 6
                          clear hrx hsb9
                          have hw2 := HWR.out.1
                          have hw4 := HWR.out.2
                          have hw5 : IntKind.u32.wrap (tl'.length : Int) = tl'.length := by rw [IntKind.wrap_u32]; omega
                          have hw6 : IntKind.i64.wrap wq = wq := by rw [IntKind.wrap_i64]; omega
                          have hw7 : IntKind.i64.wrap ((M : Int) - tl'.length) = (M : Int) - tl'.length := by rw [IntKind.wrap_i64]; omega
                          have hw8 : Int.fdiv ((M : Int) - tl'.length) 128 = wq := by have h128 : (2 : Int) ^ 7 = 128 := rfl; rw [h128] at hwq; rw [← hwq]; exact Int.fdiv_eq_ediv_of_nonneg _ (by omega)
                          go_upto_region 31 with fail
                          refine wp_gn (fun W10 hW10 => ?_)
                          have k10 : Keeps [] wr W10 := by rw [hW10]; exact Keeps.alloc _ _ _
                          have ho10 : W10.heap[wr.heap.size]? = some (.cells #[.int .u16 1, .int .u16 2, .int .u32 ia, .int .u32 na, .int .u8 16, .int .u16 wq, .int .u16 0, .slice none 0 0, .slice none 0 0] 40 (0, 0)) := by rw [hW10]; show (wr.heap.push _)[wr.heap.size]? = _; simp
                          have e10a := cell_keeps k10 hsb9c0 (by simp)
                          have e10b := cell_keeps k10 hsb9c1 (by simp)
                          have e10c := cell_keeps k10 hsb9c6 (by simp)
                          have K10 := Lib.hid (hk9.out.trans k10)
                          have ho10c0 := cell_of_block ho10 0
                          have ho10c1 := cell_of_block ho10 1
                          have ho10c2 := cell_of_block ho10 2
                          have ho10c3 := cell_of_block ho10 3
                          have ho10c4 := cell_of_block ho10 4
                          have ho10c5 := cell_of_block ho10 5
                          have ho10c6 := cell_of_block ho10 6
                          have ho10c7 := cell_of_block ho10 7
                          have ho10c8 := cell_of_block ho10 8
                          simp at ho10c0 ho10c1 ho10c2 ho10c3 ho10c4 ho10c5 ho10c6 ho10c7 ho10c8
                          clear hW10 ho10 k10 hsb9c0 hsb9c1 hsb9c6 hsb9f0 hsb9f1 hsb9f6 hrxc0 hrxc1 hrxc2 hrxc3 hrxc4 hrxc5 hrxc6 hrxc7 hrxc8
                          go_wp2_with fail
                          exact ⟨⟨1, rfl, Nat.le_refl 1, K10⟩, Nat.zero_lt_one⟩
                        · obtain rfl : j = 1 := by omega
                          go_wp2_with fail
                          go_meet
                          exact hk9
                case rest =>
                  have T10 := Lib.hid (T9.out.keep0 hcut.out)
                  generalize hwz : wc = w10 at *
                  clear hwz HV9 T9 hcut
                  as_aux_lemma =>
                    go_wp2_with fail
                    refine (eended_any T10.out.c.e (by have := T10.out.c.st2; omega)).mono ?_
                    rintro e w11 ⟨rfl, rfl⟩
                    obtain ⟨en, hen⟩ : ∃ en, s'.ended = en := ⟨_, rfl⟩
                    rw [hen]
                    cases en
                    · clear hen
                      go_wp2_with fail
                      refine (estate_any T10.out.c.e (by have := T10.out.c.st2; omega)).mono ?_
                      rintro e w12 ⟨rfl, rfl⟩
                      rw [T10.out.st2]
                      go_wp2_with fail
                      exact ⟨⟨k + 1, s', st', tl', mb', rfl, hk60, hkl1, T10.out⟩, hmeas⟩
                    · have hlen := T10.out.inv.fin hen
                      rw [HN.out] at hlen
                      have d7 : decide (tl'.length < n) = false := decide_eq_false (by omega)
                      have d8 : decide ((tl'.length : Int) < n) = false := decide_eq_false (by omega)
                      clear hen hlen
                      go_wp2_with fail
                      refine (estate_any T10.out.c.e (by have := T10.out.c.st2; omega)).mono ?_
                      rintro e w12 ⟨rfl, rfl⟩
                      rw [T10.out.st2]
                      go_wp2_with fail
                      exact ⟨⟨k + 1, s', st', tl', mb', rfl, hk60, hkl1, T10.out⟩, hmeas⟩
      · have hk2' : ¬ ((k : Int) < 60) := by omega
        clear hk2 hs
        go_wp2_with fail
        refine (wakes_any _).mono ?_
        rintro e w2 ⟨rfl, hb⟩
        go_wp2_with fail
        go_ret
        exact ⟨rfl, HS.out.kp.trans (Keeps.trans (by with_reducible first | exact Keeps.refl _ _ | exact Keeps.drewN [] _ _) ⟨hb.os, hb.tape, hb.output, hb.size, fun j hj _ => hb.block j hj⟩)⟩
    · have hk2' : ¬ ((k : Int) < len) := by omega
      clear hk1 hs
      go_wp2_with fail
      refine (wakes_any _).mono ?_
      rintro e w2 ⟨rfl, hb⟩
      go_wp2_with fail
      go_ret
      exact ⟨rfl, HS.out.kp.trans (Keeps.trans (by with_reducible first | exact Keeps.refl _ _ | exact Keeps.drewN [] _ _) ⟨hb.os, hb.tape, hb.output, hb.size, fun j hj _ => hb.block j hj⟩)⟩
end Go.Proofs.Ytakgohocimlagaa
