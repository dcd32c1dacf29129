/-
  The walk of the law HostSame. Printed by tools/gen_hostsame.py. Condition: the arguments are in the ranges of their kinds.
-/
import Derived.Test.YtgaidloicmkdaaaHsE
import Derived.Test.YtgaidloicmkdaaaHostJ
import Derived.Deep.CutBlock
namespace Go.Proofs.Ytgaidloicmkdaaa
open Go.RowKit
set_option linter.unusedVariables false
set_option linter.unusedSimpArgs false

set_option maxRecDepth 100000 in
set_option maxHeartbeats 4000000 in
theorem hsame_walk (W : World) (iss irs : Int) (u0 : U32 iss) (u1 : U32 irs) (A0 : Option Addr) (n0 c0 : Nat) (l0 : List UInt8) (hb : BytesV W (.slice A0 n0 c0) l0) (q : Option Addr) (len cap : Nat) (hl : len ≤ maxLen) (hp : PairsE W q len) :
    Calls Try.prog 4 #[.int .u32 iss, .int .u32 irs, .slice A0 n0 c0, .slice q len cap] W fun e w' => e = .returned (.bool true) ∧ Keeps [] W w' := by
  obtain ⟨hn0, hn1, hn2⟩ := hb.form
  subst hn0
  obtain ⟨S, hS⟩ : ∃ S, S = l0.take 200 := ⟨_, rfl⟩
  obtain ⟨n, hSn⟩ : ∃ n, S.length = n := ⟨_, rfl⟩
  have hSl : (min (l0.length : Int) 200).toNat = n := by rw [← hSn, hS]; simp; omega
  have hSl2 : (if (200 : Int) < l0.length then (200 : Int) else l0.length) = n := by rw [← hSn, hS]; simp; split <;> omega
  have hS4 : n ≤ 200 := by rw [← hSn, hS]; simp; omega
  have hSc : n ≤ c0 := by rw [← hSn, hS]; simp; omega
  have hbs : BytesV W (.slice A0 n c0) S := by
    have h1 : n ≤ l0.length := by rw [← hSn, hS]; simp; omega
    have := hb.upto h1
    rw [show l0.take n = S by rw [← hSn, hS]; simp [List.take_eq_take_iff]] at this
    exact this
  have HBS := Lib.hid hbs
  have HN := Lib.hid hSn
  have hS2 : S.length ≤ 200 := by omega
  clear hb hS hbs hSn
  go_enter Try.func4, Try.ntmps4
  go_upto_region 2 with fail
  clear hSl hSl2
  go_wp2_with fail
  refine (setup_any W).mono ?_
  rintro e w1 ⟨rfl, k1⟩
  unfold suV suL
  have K1 := Lib.hid k1
  have hz1 := k1.size
  clear k1
  go_upto_region 4 with fail
  refine wp_gn (fun W3 hW3 => ?_)
  have k3 : Keeps [] w1 W3 := by rw [hW3]; exact Keeps.alloc _ _ _
  have hS3 : W3.heap[w1.heap.size]? = some (.cells #[.int .u16 1, .int .u32 iss, .int .u16 1000, .int .i64 (-1), .bool false, .int .i64 100, .int .u64 4, .int .i64 10] 36 (0, 0)) := by rw [hW3]; exact (MapKept.heap_alloc w1 _).1
  have K3 := Lib.hid (K1.out.trans k3)
  have HS3 := Lib.hid hS3
  clear hW3 k3
  generalize hsb : w1.heap.size = sb at *
  have hS3c0 := cell_of_block hS3 0
  have hS3c1 := cell_of_block hS3 1
  have hS3c2 := cell_of_block hS3 2
  have hS3c3 := cell_of_block hS3 3
  have hS3c4 := cell_of_block hS3 4
  have hS3c5 := cell_of_block hS3 5
  have hS3c6 := cell_of_block hS3 6
  have hS3c7 := cell_of_block hS3 7
  simp at hS3c0 hS3c1 hS3c2 hS3c3 hS3c4 hS3c5 hS3c6 hS3c7
  clear hS3
  have HD := dial_ok W3 (suL iss) (suL_ok u0) (by simp [suL]) rfl 2 0 (by decide) (by decide) (by decide) (by decide)
  unfold suV suL at HD
  go_wp2_with fail
  refine HD.mono ?_
  clear HD
  rintro e w4 ⟨b, v, A, c, rfl, hbz, h4, o4, k4⟩
  obtain ⟨g4, cc4, rfl, _⟩ := o4
  have hsl : sb < W3.heap.size := lt_of_block HS3.out
  have hzW : W.heap.size ≤ W3.heap.size := K3.out.size
  have H4 := Lib.hid (show HostAt w4 b (s0L iss) from h4)
  have HS4 := Lib.hid ((k4.block sb hsl (by simp)).trans HS3.out)
  have K4 := Lib.hid (K3.out.trans k4)
  have hbsb : b ≠ sb := by omega
  have hzb : W.heap.size ≤ b := by omega
  have hzs : W.heap.size ≤ sb := by omega
  clear hbz h4 k4 K3 K1 hsb hsl hzW hz1 HS3 hS3c0 hS3c1 hS3c2 hS3c3 hS3c4 hS3c5 hS3c6 hS3c7
  obtain ⟨F1, hF1⟩ : ∃ F1, (irs + 1) % 4294967296 = F1 := ⟨_, rfl⟩
  obtain ⟨ia, hia⟩ : ∃ ia, (iss + 1) % 4294967296 = ia := ⟨_, rfl⟩
  have HT := up_start H4.out u0 u1 S none
  rw [hF1, hia] at HT
  have hw4 : IntKind.u32.wrap (iss + 1) = ia := by rw [← hia]; exact IntKind.wrap_u32 _
  have uF : U32 F1 := by rw [← hF1]; exact ⟨by omega, by omega⟩
  have HF := Lib.hid (And.intro hF1 hia)
  clear hF1 hia
  go_wp2_with fail
  refine HT.mono ?_
  clear HT
  rintro e w5 ⟨v5, rfl, h5, k5⟩
  have HH := Lib.hid (show HsAt W S F1 ia iss sb w5 b 0 0 (.slice none 0 0) from ⟨h5, World.ownsRow_nil _ _ _ _, (k5.block sb (lt_of_block HS4.out) (by simpa using hbsb.symm)).trans HS4.out, (fun j hj => by cases hj), hbsb, hzb, hzs, (K4.out.mono (T := [b]) (by simp) |>.trans k5).fresh (by simp; omega)⟩)
  clear h5 k5 K4 HS4 H4
  go_wp2_with fail
  go_loopw [13, 14] (fun rv iv wr => ∃ (k L R : Nat), iv = .int .i64 k ∧ k ≤ 50 ∧ k ≤ len ∧ HsAt W S F1 ia iss sb wr b L R rv) (fun _ iv _ => 50 - (intOf iv).toNat)
  case atStart => exact ⟨0, 0, 0, rfl, by omega, by omega, HH.out⟩
  case round =>
    obtain ⟨k, L, R, rfl, hk6, hkl, hs⟩ := hrel
    clear HH
    obtain ⟨AR, cR, rfl⟩ := own_slice hs.own
    have HS := Lib.hid hs
    by_cases hk1 : k < len
    · have hk1' : (k : Int) < len := by omega
      by_cases hk2 : k < 50
      · have hk2' : (k : Int) < 50 := by omega
        have hk50 : k + 1 ≤ 50 := by omega
        have hkl1 : k + 1 ≤ len := by omega
        have hmeas : 50 - (k + 1) < 50 - k := by omega
        obtain ⟨blk, off, rfl, px, py, f0, f1, g0, g1, P0, P1⟩ := hp.at hk1
        have HPX := Lib.hid P0
        have HPY := Lib.hid P1
        have p0 := cell_keeps hs.kp P0 (by simp)
        have p1 := cell_keeps hs.kp P1 (by simp)
        clear P0 P1 hs
        have hn1 : (n : Int) + 1 ≠ 0 := by omega
        have hw1 : IntKind.i64.wrap ((n : Int) + 1) = (n : Int) + 1 := IntWalk.i64_in _ (by omega)
        obtain ⟨F, hF⟩ : ∃ F : Nat, px % ((n : Int) + 1) = F := ⟨(px % ((n : Int) + 1)).toNat, by have := Int.emod_nonneg px hn1; omega⟩
        have hFl : F ≤ n := by have := Int.emod_lt_of_pos px (show (0 : Int) < (n : Int) + 1 by omega); omega
        obtain ⟨tt, htt⟩ : ∃ tt : Nat, min (n : Int) ((F : Int) + py % 50) = tt := ⟨(min (n : Int) ((F : Int) + py % 50)).toNat, by omega⟩
        have htt2 : (if (F : Int) + py % 50 < n then (F : Int) + py % 50 else n) = (tt : Int) := by split <;> omega
        have ht1 : F ≤ tt := by omega
        have ht2 : tt ≤ n := by omega
        have ht1' : (F : Int) ≤ tt := by omega
        have ht2' : (tt : Int) ≤ c0 := by omega
        have hFc' : (F : Int) ≤ c0 := by omega
        obtain ⟨X, hX⟩ : ∃ X, (if c0 = F then A0 else Option.map (fun x : Addr => x.add F) A0) = X := ⟨_, rfl⟩
        obtain ⟨sq, hsq⟩ : ∃ sq, addI F1 F = sq := ⟨_, rfl⟩
        have hw2 : IntKind.u32.wrap (irs + 1) = F1 := by rw [← HF.out.1]; exact IntKind.wrap_u32 _
        have hw3 : IntKind.u32.wrap (F1 + F) = sq := by rw [← hsq]; exact IntKind.wrap_u32 _
        have hbd := Lib.hid HS.out.up.bd
        have HQ := Lib.hid hsq
        have PY := Lib.hid (And.intro g0 g1)
        have HD := Lib.hid (fun (w : World) (k : Keeps [] W w) => (HBS.out.keep0 k).fromXe (k := F) (e := tt) ht1 ht2 hX)
        clear hsq
        go_upto_region 17 with fail
        refine wp_gn (fun w1' hw1' => ?_)
        have k1 : Keeps [] wr w1' := by rw [hw1']; exact Keeps.alloc _ _ _
        have hg1 : w1'.heap[wr.heap.size]? = some (.cells #[.int .u16 2, .int .u16 1, .int .u32 sq, .int .u32 ia, .int .u8 16, .int .u16 9, .int .u16 0, .slice none 0 0, .slice X (tt - F) (c0 - F)] 30 (0, 0)) := by rw [hw1']; exact (MapKept.heap_alloc wr _).1
        have S1 := Lib.hid (HS.out.keep0 k1)
        have HG1 := Lib.hid hg1
        have hzg : W.heap.size ≤ wr.heap.size := HS.out.kp.size
        have hgb : wr.heap.size ≠ b := by have := HS.out.up.lt; omega
        clear hw1' k1 hg1 HS p0 p1 hw1 hw2 hw3
        generalize hgx : wr.heap.size = gx at *
        clear hgx htt htt2 hF hFc' hn1
        go_wp2_with fail
        refine (up_copy S1.out.up hS2).mono ?_
        rintro e w2 ⟨b', rfl, hb', hc2, k2⟩
        have S2 := Lib.hid (S1.out.keep0 k2)
        have HC2 := Lib.hid hc2
        have hg2 := (k2.block gx (lt_of_block HG1.out) (by simp)).trans HG1.out
        have hbb : b ≠ b' := by have := S1.out.up.lt; omega
        have hgb' : gx ≠ b' := by have := lt_of_block HG1.out; omega
        have hzb' : W.heap.size ≤ b' := by have := S1.out.up.lt; omega
        have hsb' : sb ≠ b' := by have := lt_of_block S1.out.hsb; omega
        have hrb' : ∀ j, (Value.slice AR R cR).ownBlock = some j → j ≠ b' := fun j hj => by have := S1.out.rlt j hj; omega
        have HG2 := Lib.hid hg2
        have hg2c0 := cell_of_block hg2 0
        have hg2c1 := cell_of_block hg2 1
        have hg2c2 := cell_of_block hg2 2
        have hg2c3 := cell_of_block hg2 3
        have hg2c4 := cell_of_block hg2 4
        have hg2c5 := cell_of_block hg2 5
        have hg2c6 := cell_of_block hg2 6
        have hg2c7 := cell_of_block hg2 7
        have hg2c8 := cell_of_block hg2 8
        simp at hg2c0 hg2c1 hg2c2 hg2c3 hg2c4 hg2c5 hg2c6 hg2c7 hg2c8
        clear hg2 k2 hc2 HG1 S1 hb'
        have HK := up_take S2.out.up S2.out.rlt hS2 uF ht1 (by rw [HN.out]; exact ht2) X (c0 - F) (HD.out _ S2.out.kp) k (by omega) (by omega)
        rw [HQ.out] at HK
        go_wp2_with fail
        refine HK.mono ?_
        clear HK
        rintro e w3 ⟨v1, rfl, ⟨hu3, to1⟩, k3⟩
        obtain ⟨L', hL'⟩ : ∃ L', gotL F1 L R F tt = L' := ⟨_, rfl⟩
        obtain ⟨is, his⟩ : ∃ is, (!accL F1 L R F tt || decide (F < tt)) = is := ⟨_, rfl⟩
        rw [hL'] at hu3
        rw [hL', his] at to1
        have hno2 := S2.out.up.no
        have S3 := Lib.hid (S2.out.took k3 hu3)
        have HC3 := Lib.hid (HC2.out.other k3 hbb.symm hno2)
        have TO1 := Lib.hid to1
        have hg3 := (k3.block gx (lt_of_block HG2.out) (by simpa using hgb)).trans HG2.out
        have HG3 := Lib.hid hg3
        clear hg2c0 hg2c1 hg2c2 hg2c3 hg2c4 hg2c5 hg2c6 hg2c7 hg2c8 hu3 to1 k3 hno2 HC2 S2 HG2
        have hg3c0 := cell_of_block hg3 0
        have hg3c1 := cell_of_block hg3 1
        have hg3c2 := cell_of_block hg3 2
        have hg3c3 := cell_of_block hg3 3
        have hg3c4 := cell_of_block hg3 4
        have hg3c5 := cell_of_block hg3 5
        have hg3c6 := cell_of_block hg3 6
        have hg3c7 := cell_of_block hg3 7
        have hg3c8 := cell_of_block hg3 8
        simp at hg3c0 hg3c1 hg3c2 hg3c3 hg3c4 hg3c5 hg3c6 hg3c7 hg3c8
        clear hg3
        have HK := up_take HC3.out (fun j hj => by cases hj) hS2 uF ht1 (by rw [HN.out]; exact ht2) X (c0 - F) (HD.out _ S3.out.kp) k (by omega) (by omega)
        rw [HQ.out, hL', his] at HK
        go_wp2_with fail
        refine HK.mono ?_
        clear HK
        rintro e w4 ⟨v2, rfl, ⟨hc4, to2⟩, k4⟩
        have hno3 := HC3.out.no
        have TO1' := Lib.hid (TO1.out.keep k4 hno3 (TO1.out.ne HC3.out))
        have TO2 := Lib.hid to2
        have S4 := Lib.hid (S3.out.other k4 hbb hno3 hzb' hsb' hrb')
        have HU4 := Lib.hid S4.out.up
        have HC4 := Lib.hid hc4
        have hg4 := (k4.block gx (lt_of_block HG3.out) (by simpa using hgb')).trans HG3.out
        have HG4 := Lib.hid hg4
        obtain ⟨A3, m3, c3, rfl⟩ := TO1'.out.slice
        obtain ⟨A4, m4, c4, rfl⟩ := TO2.out.slice
        have HL' := Lib.hid hL'
        clear hg3c0 hg3c1 hg3c2 hg3c3 hg3c4 hg3c5 hg3c6 hg3c7 hg3c8 hc4 to2 k4 hno3 HC3 S3 HG3 hg4 TO1 hL' his
        have TO1 := Lib.hid TO1'.out
        clear TO1'
        obtain ⟨hL1, hL2, hL3⟩ := HU4.out.bd
        rw [HN.out] at hL1
        obtain ⟨bx, hbx⟩ : ∃ z : ByteArray, (⟨(S.take L').toArray⟩ : ByteArray) = z := ⟨_, rfl⟩
        have HBX := Lib.hid hbx
        clear hbx
        go_upto_region 20 with fail
        go_cut [137] from 55 to 212 (fun bv wx => bv = .bool false ∧ Hid (Keeps [] w4 wx))
        case first =>
          as_aux_lemma =>
            refine wp_region_held_drew (S := fun W => Keeps [] w4 W) (by kernel_rfl) (Keeps.drew [] w4) (fun hHeld => ?_)
            refine wpAnyH_take (i := 0) (oi := _) (v := ?vp1) rfl (by kernel_rfl) (by kernel_rfl) (by kernel_rfl) (fun _ _ _ h => h) (Or.inl ⟨by rfl, ?hyp1⟩) (by assumption) ?restp1
            case hyp1 => (intro w hSw; (try dsimp only at hSw); go_simp; try (with_reducible rfl))
            try simp only [List.getElem_toArray, List.getElem_cons_zero, List.getElem_cons_succ, Act.put, List.setIfInBounds_toArray, List.set_cons_zero, List.set_cons_succ]
            refine wpAnyH_take (i := 1) (oi := _) (v := ?vp2) rfl (by kernel_rfl) (by kernel_rfl) (by kernel_rfl) (fun _ _ _ h => h) (Or.inl ⟨by rfl, ?hyp2⟩) (by assumption) ?restp2
            case hyp2 => (intro w hSw; (try dsimp only at hSw); go_simp; try (with_reducible rfl))
            try simp only [List.getElem_toArray, List.getElem_cons_zero, List.getElem_cons_succ, Act.put, List.setIfInBounds_toArray, List.set_cons_zero, List.set_cons_succ]
            refine wpAnyH_take (i := 2) (oi := _) (v := ?vp3) rfl (by kernel_rfl) (by kernel_rfl) (by kernel_rfl) (fun _ _ _ h => h) (Or.inl ⟨by rfl, ?hyp3⟩) (by assumption) ?restp3
            case hyp3 => (intro w hSw; (try dsimp only at hSw); go_simp; try (with_reducible rfl))
            try simp only [List.getElem_toArray, List.getElem_cons_zero, List.getElem_cons_succ, Act.put, List.setIfInBounds_toArray, List.set_cons_zero, List.set_cons_succ]
            refine wpAnyH_take (i := 3) (oi := _) (v := ?vp4) rfl (by kernel_rfl) (by kernel_rfl) (by kernel_rfl) (fun _ _ _ h => h) (Or.inl ⟨by rfl, ?hyp4⟩) (by assumption) ?restp4
            case hyp4 => (intro w hSw; (try dsimp only at hSw); go_simp; try (with_reducible rfl))
            try simp only [List.getElem_toArray, List.getElem_cons_zero, List.getElem_cons_succ, Act.put, List.setIfInBounds_toArray, List.set_cons_zero, List.set_cons_succ]
            refine wpAnyH_take (i := 4) (oi := _) (v := ?vp5) rfl (by kernel_rfl) (by kernel_rfl) (by kernel_rfl) (fun _ _ _ h => h) (Or.inl ⟨by rfl, ?hyp5⟩) (by assumption) ?restp5
            case hyp5 => (intro w hSw; (try dsimp only at hSw); go_simp; try (with_reducible rfl))
            try simp only [List.getElem_toArray, List.getElem_cons_zero, List.getElem_cons_succ, Act.put, List.setIfInBounds_toArray, List.set_cons_zero, List.set_cons_succ]
            refine wpAnyH_take (i := 5) (oi := _) (v := ?vp6) rfl (by kernel_rfl) (by kernel_rfl) (by kernel_rfl) (fun _ _ _ h => h) (Or.inl ⟨by rfl, ?hyp6⟩) (by assumption) ?restp6
            case hyp6 => (intro w hSw; (try dsimp only at hSw); go_simp; try (with_reducible rfl))
            try simp only [List.getElem_toArray, List.getElem_cons_zero, List.getElem_cons_succ, Act.put, List.setIfInBounds_toArray, List.set_cons_zero, List.set_cons_succ]
            refine wpAnyH_take (i := 6) (oi := _) (v := ?vp7) rfl (by kernel_rfl) (by kernel_rfl) (by kernel_rfl) (fun _ _ _ h => h) (Or.inl ⟨by rfl, ?hyp7⟩) (by assumption) ?restp7
            case hyp7 => (intro w hSw; (try dsimp only at hSw); go_simp; try (with_reducible rfl))
            try simp only [List.getElem_toArray, List.getElem_cons_zero, List.getElem_cons_succ, Act.put, List.setIfInBounds_toArray, List.set_cons_zero, List.set_cons_succ]
            refine wpAnyH_take (i := 7) (oi := _) (v := ?vp8) rfl (by kernel_rfl) (by kernel_rfl) (by kernel_rfl) (fun _ _ _ h => h) (Or.inl ⟨by rfl, ?hyp8⟩) (by assumption) ?restp8
            case hyp8 => (intro w hSw; (try dsimp only at hSw); go_simp; try (with_reducible rfl))
            try simp only [List.getElem_toArray, List.getElem_cons_zero, List.getElem_cons_succ, Act.put, List.setIfInBounds_toArray, List.set_cons_zero, List.set_cons_succ]
            refine wpAnyH_take (i := 8) (oi := _) (v := ?vp9) rfl (by kernel_rfl) (by kernel_rfl) (by kernel_rfl) (fun _ _ _ h => h) (Or.inl ⟨by rfl, ?hyp9⟩) (by assumption) ?restp9
            case hyp9 => (intro w hSw; (try dsimp only at hSw); go_simp; try (with_reducible rfl))
            try simp only [List.getElem_toArray, List.getElem_cons_zero, List.getElem_cons_succ, Act.put, List.setIfInBounds_toArray, List.set_cons_zero, List.set_cons_succ]
            refine wpAnyH_ready (rs := [9]) (by kernel_rfl) (by simp) ?_
            refine AllReadyH.cons (o := _) rfl (fun K hK => ?_) AllReadyH.nil
            simp only [List.getElem_toArray, List.getElem_cons_zero, List.getElem_cons_succ]
            go_simp
            refine (hsame_told _ (TO1.out.keep0 (Keeps.drew [] w4)) (TO2.out.keep0 (Keeps.drew [] w4))).mono ?_
            rintro e w5 ⟨rfl, k5⟩
            have kk5 : Keeps [] w4 w5 := (Keeps.drew [] w4).trans k5
            clear k5 hHeld
            refine hK.out _ _ (kk5) (fun hHeld => ?_)
            clear hK K
            try simp only [List.getElem_toArray, List.getElem_cons_zero, List.getElem_cons_succ, Act.put, List.setIfInBounds_toArray, List.set_cons_zero, List.set_cons_succ]
            refine wpAnyH_take (i := 10) (oi := _) (v := ?vp10) rfl (by kernel_rfl) (by kernel_rfl) (by kernel_rfl) (fun _ _ _ h => h) (Or.inl ⟨by rfl, ?hyp10⟩) (by assumption) ?restp10
            case hyp10 => (intro w hSw; (try dsimp only at hSw); go_simp; try (with_reducible rfl))
            try simp only [List.getElem_toArray, List.getElem_cons_zero, List.getElem_cons_succ, Act.put, List.setIfInBounds_toArray, List.set_cons_zero, List.set_cons_succ]
            refine wpAnyH_take (i := 11) (oi := _) (v := ?vp11) rfl (by kernel_rfl) (by kernel_rfl) (by kernel_rfl) (fun _ _ _ h => h) (Or.inl ⟨by rfl, ?hyp11⟩) (by assumption) ?restp11
            case hyp11 => (intro w hSw; (try dsimp only at hSw); go_simp; try (with_reducible rfl))
            try simp only [List.getElem_toArray, List.getElem_cons_zero, List.getElem_cons_succ, Act.put, List.setIfInBounds_toArray, List.set_cons_zero, List.set_cons_succ]
            refine wpAnyH_take (i := 12) (oi := _) (v := ?vp12) rfl (by kernel_rfl) (by kernel_rfl) (by kernel_rfl) (fun _ _ _ h => h) (Or.inl ⟨by rfl, ?hyp12⟩) (by assumption) ?restp12
            case hyp12 => (intro w hSw; (try dsimp only at hSw); go_simp; try (with_reducible rfl))
            try simp only [List.getElem_toArray, List.getElem_cons_zero, List.getElem_cons_succ, Act.put, List.setIfInBounds_toArray, List.set_cons_zero, List.set_cons_succ]
            refine wpAnyH_take (i := 13) (oi := _) (v := ?vp13) rfl (by kernel_rfl) (by kernel_rfl) (by kernel_rfl) (fun _ _ _ h => h) (Or.inl ⟨by rfl, ?hyp13⟩) (by assumption) ?restp13
            case hyp13 => (intro w hSw; (try dsimp only at hSw); go_simp; try (with_reducible rfl))
            try simp only [List.getElem_toArray, List.getElem_cons_zero, List.getElem_cons_succ, Act.put, List.setIfInBounds_toArray, List.set_cons_zero, List.set_cons_succ]
            refine wpAnyH_take (i := 16) (oi := _) (v := ?vp14) rfl (by kernel_rfl) (by kernel_rfl) (by kernel_rfl) (fun _ _ _ h => h) (Or.inl ⟨by rfl, ?hyp14⟩) (by assumption) ?restp14
            case hyp14 => (intro w hSw; (try dsimp only at hSw); go_simp; try (with_reducible rfl))
            try simp only [List.getElem_toArray, List.getElem_cons_zero, List.getElem_cons_succ, Act.put, List.setIfInBounds_toArray, List.set_cons_zero, List.set_cons_succ]
            refine wpAnyH_ready (rs := [14]) (by kernel_rfl) (by simp) ?_
            refine AllReadyH.cons (o := _) rfl (fun K hK => ?_) AllReadyH.nil
            simp only [List.getElem_toArray, List.getElem_cons_zero, List.getElem_cons_succ]
            go_simp
            refine (up_got (HU4.out.keep0 kk5) hS2).mono ?_
            rintro e wa ⟨Aa, ca, rfl, ba, ka⟩
            have kka : Keeps [] w4 wa := kk5.trans ka
            have BA := Lib.hid ba
            have hsa : ∀ W, Keeps [] wa W → (convert 28 9 (.slice Aa L' ca)).run Try.prog W = .ok (.string bx) W := fun W k => by rw [← HBX.out]; exact (BA.out.keep0 k).str0 (P := Try.prog) 28 9 5 Try.underlying28 Try.underlying5 Try.underlying9
            clear ka ba hHeld
            refine hK.out _ _ (kka) (fun hHeld => ?_)
            clear hK K
            try simp only [List.getElem_toArray, List.getElem_cons_zero, List.getElem_cons_succ, Act.put, List.setIfInBounds_toArray, List.set_cons_zero, List.set_cons_succ]
            refine wpAnyH_mono (S' := fun W => Keeps [] wa W) (fun W k => kka.trans k) _ _ _ _ ?_
            have hHeldB : Keeps [] wa wa := Keeps.refl _ _
            refine wpAnyH_take (i := 15) (oi := _) (v := ?vp15) rfl (by kernel_rfl) (by kernel_rfl) (by kernel_rfl) (fun _ _ _ h => h) (Or.inl ⟨by rfl, ?hyp15⟩) (by assumption) ?restp15
            case hyp15 => (intro w hSw; (try dsimp only at hSw); go_simp; try (with_reducible rfl))
            try simp only [List.getElem_toArray, List.getElem_cons_zero, List.getElem_cons_succ, Act.put, List.setIfInBounds_toArray, List.set_cons_zero, List.set_cons_succ]
            refine wpAnyH_ready (rs := [17]) (by kernel_rfl) (by simp) ?_
            refine AllReadyH.cons (o := _) rfl (fun K hK => ?_) AllReadyH.nil
            simp only [List.getElem_toArray, List.getElem_cons_zero, List.getElem_cons_succ]
            go_simp
            refine (up_got (HC4.out.keep0 kka) hS2).mono ?_
            rintro e wb ⟨Ab, cb, rfl, bb, kb⟩
            have kkb : Keeps [] w4 wb := kka.trans kb
            have BB := Lib.hid bb
            have kab := kb
            clear kb bb hHeldB
            refine hK.out _ _ (kab) (fun hHeld => ?_)
            clear hK K
            try simp only [List.getElem_toArray, List.getElem_cons_zero, List.getElem_cons_succ, Act.put, List.setIfInBounds_toArray, List.set_cons_zero, List.set_cons_succ]
            have hsb' : ∀ W, Keeps [] wb W → (convert 28 9 (.slice Ab L' cb)).run Try.prog W = .ok (.string bx) W := fun W k => by rw [← HBX.out]; exact (BB.out.keep0 k).str0 (P := Try.prog) 28 9 5 Try.underlying28 Try.underlying5 Try.underlying9
            refine wpAnyH_mono (S' := fun W => Keeps [] wb W) (fun W k => kab.trans k) _ _ _ _ ?_
            have hHeldC : Keeps [] wb wb := Keeps.refl _ _
            refine wpAnyH_take (i := 18) (oi := _) (v := ?vp16) rfl (by kernel_rfl) (by kernel_rfl) (by kernel_rfl) (fun _ _ _ h => h) (Or.inl ⟨by rfl, ?hyp16⟩) (by assumption) ?restp16
            case hyp16 => (intro w hSw; (try dsimp only at hSw); go_simp; try (with_reducible rfl))
            try simp only [List.getElem_toArray, List.getElem_cons_zero, List.getElem_cons_succ, Act.put, List.setIfInBounds_toArray, List.set_cons_zero, List.set_cons_succ]
            refine wpAnyH_take (i := 19) (oi := _) (v := ?vp17) rfl (by kernel_rfl) (by kernel_rfl) (by kernel_rfl) (fun _ _ _ h => h) (Or.inl ⟨by rfl, ?hyp17⟩) (by assumption) ?restp17
            case hyp17 => (intro w hSw; (try dsimp only at hSw); go_simp; try (with_reducible rfl))
            try simp only [List.getElem_toArray, List.getElem_cons_zero, List.getElem_cons_succ, Act.put, List.setIfInBounds_toArray, List.set_cons_zero, List.set_cons_succ]
            refine wpAnyH_take (i := 20) (oi := _) (v := ?vp18) rfl (by kernel_rfl) (by kernel_rfl) (by kernel_rfl) (fun _ _ _ h => h) (Or.inl ⟨by rfl, ?hyp18⟩) (by assumption) ?restp18
            case hyp18 => (intro w hSw; (try dsimp only at hSw); go_simp; try (with_reducible rfl))
            try simp only [List.getElem_toArray, List.getElem_cons_zero, List.getElem_cons_succ, Act.put, List.setIfInBounds_toArray, List.set_cons_zero, List.set_cons_succ]
            refine wpAnyH_done (by kernel_rfl) ?_ _
            go_wp2_with fail
            go_meet
            exact ⟨rfl, Lib.hid kkb⟩
        case rest =>
          obtain ⟨rfl, hk5⟩ := hcut
          have S5 := Lib.hid (S4.out.keep0 hk5.out)
          have HC5 := Lib.hid (HC4.out.keep0 hk5.out)
          have HG5 := Lib.hid ((hk5.out.block gx (lt_of_block HG4.out) (by simp)).trans HG4.out)
          generalize hwz : wc = w5 at *
          clear hwz hk5 S4 HC4 HG4 HU4 TO1 TO2
          go_wp2_with fail
          refine (up_gotF S5.out.up hS2).mono ?_
          rintro e w6 ⟨A6, c6, rfl, hf6, hb6, k6⟩
          have FR6 := Lib.hid (show ∀ a, A6 = some a → a.block ∉ (Value.slice AR R cR).ownBlock.toList from fun a ha hm => by have h1 := S5.out.rlt a.block (by simpa using hm); have h2 := hf6 a ha; omega)
          clear hf6
          have S6 := Lib.hid (S5.out.keep0 k6)
          have HC6 := Lib.hid (HC5.out.keep0 k6)
          have HG6 := Lib.hid ((k6.block gx (lt_of_block HG5.out) (by simp)).trans HG5.out)
          have HB6 := Lib.hid hb6
          clear hb6 k6 S5 HC5 HG5
          go_upto_region 23 with fail
          go_cut [164] from 55 to 212 (fun bv wx => bv = .bool false ∧ Hid (Keeps [] w6 wx))
          case first =>
            as_aux_lemma =>
              have d1 : decide ((n : Int) < L') = false := decide_eq_false (by omega)
              have d2 : decide (n < L') = false := decide_eq_false (by omega)
              have htc : (L' : Int) ≤ c0 := by omega
              have hsw : IntKind.i64.wrap ((L' : Int) - R) = (L' : Int) - R := by rw [IntKind.wrap_i64]; omega
              have d3 : decide (100 < (L' : Int) - R) = false := decide_eq_false (by omega)
              have hs1 : ∀ m, (convert 28 9 (.slice A6 L' c6)).run Try.prog (w6.drewN m) = .ok (.string bx) (w6.drewN m) := fun m => by rw [← HBX.out]; exact (HB6.out.keep0 (Keeps.drewN [] w6 m)).str0 (P := Try.prog) 28 9 5 Try.underlying28 Try.underlying5 Try.underlying9
              have hs2 : ∀ m, (convert 28 9 (.slice A0 L' c0)).run Try.prog (w6.drewN m) = .ok (.string bx) (w6.drewN m) := fun m => by rw [← HBX.out]; exact (((HBS.out.keep0 S6.out.kp).upto (k := L') hL1).keep0 (Keeps.drewN [] w6 m)).str0 (P := Try.prog) 28 9 5 Try.underlying28 Try.underlying5 Try.underlying9
              have hsb6 := S6.out.hsb
              have hsb6c5 := cell_of_block hsb6 5
              simp at hsb6c5
              have hsb6f5 := free_of_block hsb6 5
              clear hsb6
              go_quiet (fail)
              go_wp2_with fail
              go_meet
              exact ⟨rfl, Lib.hid (Keeps.drewN [] w6 _)⟩
          case rest =>
            obtain ⟨rfl, hk7⟩ := hcut
            have S7 := Lib.hid (S6.out.keep0 hk7.out)
            have HC7 := Lib.hid (HC6.out.keep0 hk7.out)
            have HB7 := Lib.hid (HB6.out.keep0 hk7.out)
            have hg7 := (hk7.out.block gx (lt_of_block HG6.out) (by simp)).trans HG6.out
            generalize hwz : wc = w7 at *
            clear hwz hk7 S6 HC6 HG6 HB6
            have hg7c0 := cell_of_block hg7 0
            have hg7c1 := cell_of_block hg7 1
            have hg7c2 := cell_of_block hg7 2
            have hg7c3 := cell_of_block hg7 3
            have hg7c4 := cell_of_block hg7 4
            have hg7c5 := cell_of_block hg7 5
            have hg7c6 := cell_of_block hg7 6
            have hg7c7 := cell_of_block hg7 7
            have hg7c8 := cell_of_block hg7 8
            simp at hg7c0 hg7c1 hg7c2 hg7c3 hg7c4 hg7c5 hg7c6 hg7c7 hg7c8
            clear hg7
            have HK := up_take HC7.out (fun j hj => by cases hj) hS2 uF ht1 (by rw [HN.out]; exact ht2) X (c0 - F) (HD.out _ S7.out.kp) k (by omega) (by omega)
            rw [HQ.out, show gotL F1 L' R F tt = L' by rw [← HL'.out]; exact gotL_twice _ _ _ _ _] at HK
            go_wp2_with fail
            refine HK.mono ?_
            clear HK
            rintro e w8 ⟨v3, rfl, ⟨hc8, _⟩, k8⟩
            have hno7 := HC7.out.no
            have S8 := Lib.hid (S7.out.other k8 hbb hno7 hzb' hsb' hrb')
            have HC8 := Lib.hid hc8
            have HB8 := Lib.hid (HB7.out.keep k8 hno7)
            clear hg7c0 hg7c1 hg7c2 hg7c3 hg7c4 hg7c5 hg7c6 hg7c7 hg7c8 hc8 k8 hno7 HC7 S7 HB7
            go_wp2_with fail
            refine (up_got HC8.out hS2).mono ?_
            rintro e w9 ⟨A9, c9, rfl, _, k9⟩
            have S9 := Lib.hid (S8.out.keep0 k9)
            have HB9 := Lib.hid (HB8.out.keep0 k9)
            clear k9 S8 HB8 HC8
            have p1 := cell_keeps S9.out.kp HPY.out (by simp)
            obtain ⟨nn, hnn⟩ : ∃ nn : Nat, py % 7 = nn := ⟨(py % 7).toNat, by omega⟩
            have hnn7 : nn ≤ 1000 := by omega
            obtain ⟨m, hm⟩ : ∃ m, m = min nn (L' - R) := ⟨_, rfl⟩
            have hmb : R + m ≤ L' := by omega
            have HNN := Lib.hid hnn7
            have HM := Lib.hid hm
            clear hnn7 hm
            go_wp2_with fail
            refine (up_read S9.out.up hS2 nn m HNN.out HM.out).mono ?_
            rintro e wA ⟨AA, cA, vA, rfl, hbA, huA, kA⟩
            have hnoA := S9.out.up.no
            have HBA := Lib.hid hbA
            have HBX9 := Lib.hid (HB9.out.keep kA hnoA)
            have RD := Lib.hid (S9.out.read kA)
            have gr : ∀ (w2 : World) (v2 : Value), wA.grownBy w2 (Value.slice AR R cR).ownBlock → (v2.ownBlock = (Value.slice AR R cR).ownBlock ∨ v2.ownBlock = some wA.heap.size) → w2.ownsRow W.heap.size 5 1 v2 (R + m) ((S.take (R + m)).map u8V) → HsAt W S F1 ia iss sb w2 b L' (R + m) v2 := fun w2 v2 hg hat ho => S9.out.grow kA huA hg hat ho
            have GR := Lib.hid gr
            clear gr
            clear hbA huA kA hnoA S9 HB9 p1
            obtain ⟨x, hx⟩ : ∃ x, (S.drop R).take m = x := ⟨_, rfl⟩
            have hxl : x.length = m := by rw [← hx]; simp; have := HN.out; omega
            have HXE := Lib.hid hx
            rw [hx] at HBA
            clear hx
            go_wp2_with (at_builtin; refine wpList_append_bytes rfl _ _ W.heap.size 28 5 rfl Try.underlying28 Try.infoU8 (.slice AR R cR) R (S.take R) rfl RD.out.1 _ x rfl HBA.out (by omega) RD.out.2.2.size ?_)
            intro vB wB hownB hgB hatB _
            have htk : S.take R ++ x = S.take (R + m) := by rw [← HXE.out, List.take_add]
            have hown2 : wB.ownsRow W.heap.size 5 1 vB (R + m) ((S.take (R + m)).map u8V) := by rw [← htk, List.map_append, List.map_take]; exact hownB
            have SB' := Lib.hid (GR.out _ _ hgB hatB hown2)
            obtain ⟨AB, cB, rfl⟩ := own_slice hown2
            have kB : Keeps (Value.slice AR R cR).ownBlock.toList wA wB := ⟨hgB.os, hgB.tape, hgB.output, hgB.size, fun j hj hn => hgB.block j hj (fun e => hn (by simp [← e]))⟩
            have HG0 := Lib.hid (HBX9.out.keepF kB FR6.out)
            have HGB := Lib.hid (show BytesV wB (.slice A6 (R + m) c6) (S.take (R + m)) from by
              have h := HG0.out.upto (k := R + m) hmb
              rwa [List.take_take, Nat.min_eq_left hmb] at h)
            have HOB := Lib.hid (BytesV.of_own hown2)
            have LC := Lib.hid HG0.out.form
            clear hownB hown2 hgB hatB kB htk GR RD HBA HBX9 FR6
            obtain ⟨by', hby⟩ : ∃ z : ByteArray, (⟨(S.take (R + m)).toArray⟩ : ByteArray) = z := ⟨_, rfl⟩
            have HBY := Lib.hid hby
            clear hby
            have d1 : decide ((L' : Int) < (R : Int) + m) = false := decide_eq_false (by omega)
            have d1b : decide ((L' : Int) < ((R + m : Nat) : Int)) = false := decide_eq_false (by omega)
            have d2 : decide (L' < R + m) = false := decide_eq_false (by omega)
            have htc : ((R + m : Nat) : Int) ≤ c6 := by have := LC.out.2.1; omega
            have htc2 : (R : Int) + m ≤ c6 := by omega
            have hs1 : ∀ dd, (convert 28 9 (.slice AB (R + m) cB)).run Try.prog (wB.drewN dd) = .ok (.string by') (wB.drewN dd) := fun dd => by rw [← HBY.out]; exact (HOB.out.keep0 (Keeps.drewN [] wB dd)).str0 (P := Try.prog) 28 9 5 Try.underlying28 Try.underlying5 Try.underlying9
            have hs2 : ∀ dd, (convert 28 9 (.slice A6 (R + m) c6)).run Try.prog (wB.drewN dd) = .ok (.string by') (wB.drewN dd) := fun dd => by rw [← HBY.out]; exact (HGB.out.keep0 (Keeps.drewN [] wB dd)).str0 (P := Try.prog) 28 9 5 Try.underlying28 Try.underlying5 Try.underlying9
            go_upto_region 30 with fail
            go_quiet (fail)
            go_wp2_with fail
            exact ⟨⟨k + 1, L', R + m, rfl, hk50, hkl1, SB'.out.keep0 (Keeps.drewN [] wB _)⟩, hmeas⟩
      · have hk2' : ¬ ((k : Int) < 50) := by omega
        clear hk2
        obtain ⟨hL1, hL2, hL3⟩ := HS.out.up.bd
        obtain ⟨m, hm⟩ : ∃ m, m = min 1000 (L - R) := ⟨_, rfl⟩
        have hRm : R + m = L := by omega
        go_wp2_with fail
        refine (up_read HS.out.up hS2 1000 m (by decide) hm).mono ?_
        rintro e w2 ⟨AA, cA, vA, rfl, hbA, huA, kA⟩
        have RD := Lib.hid (HS.out.read kA)
        have HUE := Lib.hid huA
        have HBA := Lib.hid hbA
        have HOR := Lib.hid (BytesV.of_own RD.out.1)
        have hcat0 := cat_bytes (S.take R) ((S.drop R).take m) (S.take L) (by rw [← List.take_add, hRm])
        obtain ⟨bR, hbR⟩ : ∃ z : ByteArray, (⟨(S.take R).toArray⟩ : ByteArray) = z := ⟨_, rfl⟩
        obtain ⟨bX, hbX⟩ : ∃ z : ByteArray, (⟨((S.drop R).take m).toArray⟩ : ByteArray) = z := ⟨_, rfl⟩
        obtain ⟨bx, hbx⟩ : ∃ z : ByteArray, (⟨(S.take L).toArray⟩ : ByteArray) = z := ⟨_, rfl⟩
        have hbl : ¬ (9223372036854775807 < bR.size + bX.size) := by rw [← hbR, ← hbX]; simp [ByteArray.size]; omega
        rw [hbR, hbX, hbx] at hcat0
        have HBR := Lib.hid hbR
        have HBXX := Lib.hid hbX
        have HBX := Lib.hid hbx
        have hsr : ∀ W, Keeps [] w2 W → (convert 28 9 (.slice AR R cR)).run Try.prog W = .ok (.string bR) W := fun W k => by rw [← HBR.out]; exact (HOR.out.keep0 k).str0 (P := Try.prog) 28 9 5 Try.underlying28 Try.underlying5 Try.underlying9
        have hsx : ∀ W, Keeps [] w2 W → (convert 28 9 (.slice AA m cA)).run Try.prog W = .ok (.string bX) W := fun W k => by rw [← HBXX.out]; exact (HBA.out.keep0 k).str0 (P := Try.prog) 28 9 5 Try.underlying28 Try.underlying5 Try.underlying9
        clear hbA huA kA hbR hbX hbx hm hL1 hL2 hL3
        go_upto_region 33 with fail
        refine wp_region_held_drew (S := fun W => Keeps [] w2 W) (by kernel_rfl) (Keeps.drew [] w2) (fun hHeld => ?_)
        refine wpAnyH_take (i := 0) (oi := _) (v := ?vz1) rfl (by kernel_rfl) (by kernel_rfl) (by kernel_rfl) (fun _ _ _ h => h) (Or.inl ⟨by rfl, ?hyz1⟩) (by assumption) ?restz1
        case hyz1 => (intro w hSw; (try dsimp only at hSw); go_simp; try (with_reducible rfl))
        try simp only [List.getElem_toArray, List.getElem_cons_zero, List.getElem_cons_succ, Act.put, List.setIfInBounds_toArray, List.set_cons_zero, List.set_cons_succ]
        refine wpAnyH_take (i := 1) (oi := _) (v := ?vz2) rfl (by kernel_rfl) (by kernel_rfl) (by kernel_rfl) (fun _ _ _ h => h) (Or.inl ⟨by rfl, ?hyz2⟩) (by assumption) ?restz2
        case hyz2 => (intro w hSw; (try dsimp only at hSw); go_simp; try (with_reducible rfl))
        try simp only [List.getElem_toArray, List.getElem_cons_zero, List.getElem_cons_succ, Act.put, List.setIfInBounds_toArray, List.set_cons_zero, List.set_cons_succ]
        refine wpAnyH_take (i := 2) (oi := _) (v := ?vz3) rfl (by kernel_rfl) (by kernel_rfl) (by kernel_rfl) (fun _ _ _ h => h) (Or.inl ⟨by rfl, ?hyz3⟩) (by assumption) ?restz3
        case hyz3 => (intro w hSw; (try dsimp only at hSw); go_simp; try (with_reducible rfl))
        try simp only [List.getElem_toArray, List.getElem_cons_zero, List.getElem_cons_succ, Act.put, List.setIfInBounds_toArray, List.set_cons_zero, List.set_cons_succ]
        refine wpAnyH_take (i := 3) (oi := _) (v := ?vz4) rfl (by kernel_rfl) (by kernel_rfl) (by kernel_rfl) (fun _ _ _ h => h) (Or.inl ⟨by rfl, ?hyz4⟩) (by assumption) ?restz4
        case hyz4 => (intro w hSw; (try dsimp only at hSw); go_simp; try (with_reducible rfl))
        try simp only [List.getElem_toArray, List.getElem_cons_zero, List.getElem_cons_succ, Act.put, List.setIfInBounds_toArray, List.set_cons_zero, List.set_cons_succ]
        refine wpAnyH_take (i := 4) (oi := _) (v := ?vz5) rfl (by kernel_rfl) (by kernel_rfl) (by kernel_rfl) (fun _ _ _ h => h) (Or.inl ⟨by rfl, ?hyz5⟩) (by assumption) ?restz5
        case hyz5 => (intro w hSw; (try dsimp only at hSw); go_simp; try (with_reducible rfl))
        try simp only [List.getElem_toArray, List.getElem_cons_zero, List.getElem_cons_succ, Act.put, List.setIfInBounds_toArray, List.set_cons_zero, List.set_cons_succ]
        refine wpAnyH_take (i := 5) (oi := _) (v := ?vz6) rfl (by kernel_rfl) (by kernel_rfl) (by kernel_rfl) (fun _ _ _ h => h) (Or.inl ⟨by rfl, ?hyz6⟩) (by assumption) ?restz6
        case hyz6 => (intro w hSw; (try dsimp only at hSw); go_simp; try (with_reducible rfl))
        try simp only [List.getElem_toArray, List.getElem_cons_zero, List.getElem_cons_succ, Act.put, List.setIfInBounds_toArray, List.set_cons_zero, List.set_cons_succ]
        refine wpAnyH_ready (rs := [6]) (by kernel_rfl) (by simp) ?_
        refine AllReadyH.cons (o := _) rfl (fun K hK => ?_) AllReadyH.nil
        simp only [List.getElem_toArray, List.getElem_cons_zero, List.getElem_cons_succ]
        go_simp
        refine (up_got (HUE.out.keep0 (Keeps.drew [] w2)) hS2).mono ?_
        rintro e wa ⟨Aa, ca, rfl, ba, ka⟩
        have kka : Keeps [] w2 wa := (Keeps.drew [] w2).trans ka
        have BA := Lib.hid ba
        have hsa : ∀ W, Keeps [] wa W → (convert 28 9 (.slice Aa L ca)).run Try.prog W = .ok (.string bx) W := fun W k => by rw [← HBX.out]; exact (BA.out.keep0 k).str0 (P := Try.prog) 28 9 5 Try.underlying28 Try.underlying5 Try.underlying9
        clear ka ba hHeld
        refine hK.out _ _ (kka) (fun hHeld => ?_)
        clear hK K
        try simp only [List.getElem_toArray, List.getElem_cons_zero, List.getElem_cons_succ, Act.put, List.setIfInBounds_toArray, List.set_cons_zero, List.set_cons_succ]
        refine wpAnyH_mono (S' := fun W => Keeps [] wa W) (fun W k => kka.trans k) _ _ _ _ ?_
        have hHeldB : Keeps [] wa wa := Keeps.refl _ _
        refine wpAnyH_take (i := 7) (oi := _) (v := ?vz7) rfl (by kernel_rfl) (by kernel_rfl) (by kernel_rfl) (fun _ _ _ h => h) (Or.inl ⟨by rfl, ?hyz7⟩) (by assumption) ?restz7
        case hyz7 => (intro w hSw; (try dsimp only at hSw); go_simp; try (with_reducible rfl))
        try simp only [List.getElem_toArray, List.getElem_cons_zero, List.getElem_cons_succ, Act.put, List.setIfInBounds_toArray, List.set_cons_zero, List.set_cons_succ]
        refine wpAnyH_take (i := 8) (oi := _) (v := ?vz8) rfl (by kernel_rfl) (by kernel_rfl) (by kernel_rfl) (fun _ _ _ h => h) (Or.inl ⟨by rfl, ?hyz8⟩) (by assumption) ?restz8
        case hyz8 => (intro w hSw; (try dsimp only at hSw); go_simp; try (with_reducible rfl))
        try simp only [List.getElem_toArray, List.getElem_cons_zero, List.getElem_cons_succ, Act.put, List.setIfInBounds_toArray, List.set_cons_zero, List.set_cons_succ]
        refine wpAnyH_take (i := 9) (oi := _) (v := ?vz9) rfl (by kernel_rfl) (by kernel_rfl) (by kernel_rfl) (fun _ _ _ h => h) (Or.inl ⟨by rfl, ?hyz9⟩) (by assumption) ?restz9
        case hyz9 => (intro w hSw; (try dsimp only at hSw); go_simp; try (with_reducible rfl))
        try simp only [List.getElem_toArray, List.getElem_cons_zero, List.getElem_cons_succ, Act.put, List.setIfInBounds_toArray, List.set_cons_zero, List.set_cons_succ]
        refine wpAnyH_take (i := 10) (oi := _) (v := ?vz10) rfl (by kernel_rfl) (by kernel_rfl) (by kernel_rfl) (fun _ _ _ h => h) (Or.inl ⟨by rfl, ?hyz10⟩) (by assumption) ?restz10
        case hyz10 => (intro w hSw; (try dsimp only at hSw); go_simp; try (with_reducible rfl))
        try simp only [List.getElem_toArray, List.getElem_cons_zero, List.getElem_cons_succ, Act.put, List.setIfInBounds_toArray, List.set_cons_zero, List.set_cons_succ]
        refine wpAnyH_ready (rs := [11]) (by kernel_rfl) (by simp) ?_
        refine AllReadyH.cons (o := _) rfl (fun K hK => ?_) AllReadyH.nil
        simp only [List.getElem_toArray, List.getElem_cons_zero, List.getElem_cons_succ]
        go_simp
        refine (up_state (HUE.out.keep0 kka)).mono ?_
        rintro e w6 ⟨rfl, rfl⟩
        clear hHeldB
        refine hK.out _ _ (Keeps.refl _ _) (fun hHeld => ?_)
        clear hK K
        try simp only [List.getElem_toArray, List.getElem_cons_zero, List.getElem_cons_succ, Act.put, List.setIfInBounds_toArray, List.set_cons_zero, List.set_cons_succ]
        refine wpAnyH_take (i := 12) (oi := _) (v := ?vz11) rfl (by kernel_rfl) (by kernel_rfl) (by kernel_rfl) (fun _ _ _ h => h) (Or.inl ⟨by rfl, ?hyz11⟩) (by assumption) ?restz11
        case hyz11 => (intro w hSw; (try dsimp only at hSw); go_simp; try (with_reducible rfl))
        try simp only [List.getElem_toArray, List.getElem_cons_zero, List.getElem_cons_succ, Act.put, List.setIfInBounds_toArray, List.set_cons_zero, List.set_cons_succ]
        refine wpAnyH_take (i := 13) (oi := _) (v := ?vz12) rfl (by kernel_rfl) (by kernel_rfl) (by kernel_rfl) (fun _ _ _ h => h) (Or.inl ⟨by rfl, ?hyz12⟩) (by assumption) ?restz12
        case hyz12 => (intro w hSw; (try dsimp only at hSw); go_simp; try (with_reducible rfl))
        try simp only [List.getElem_toArray, List.getElem_cons_zero, List.getElem_cons_succ, Act.put, List.setIfInBounds_toArray, List.set_cons_zero, List.set_cons_succ]
        refine wpAnyH_take (i := 14) (oi := _) (v := ?vz13) rfl (by kernel_rfl) (by kernel_rfl) (by kernel_rfl) (fun _ _ _ h => h) (Or.inl ⟨by rfl, ?hyz13⟩) (by assumption) ?restz13
        case hyz13 => (intro w hSw; (try dsimp only at hSw); go_simp; try (with_reducible rfl))
        try simp only [List.getElem_toArray, List.getElem_cons_zero, List.getElem_cons_succ, Act.put, List.setIfInBounds_toArray, List.set_cons_zero, List.set_cons_succ]
        refine wpAnyH_ready (rs := [15]) (by kernel_rfl) (by simp) ?_
        refine AllReadyH.cons (o := _) rfl (fun K hK => ?_) AllReadyH.nil
        simp only [List.getElem_toArray, List.getElem_cons_zero, List.getElem_cons_succ]
        go_simp
        refine (wakes_any _).mono ?_
        rintro e wc ⟨rfl, kc⟩
        have kkc : Keeps [] w2 wc := kka.trans kc
        have kac := kc
        clear kc hHeld
        refine hK.out _ _ (kac) (fun hHeld => ?_)
        clear hK K
        try simp only [List.getElem_toArray, List.getElem_cons_zero, List.getElem_cons_succ, Act.put, List.setIfInBounds_toArray, List.set_cons_zero, List.set_cons_succ]
        refine wpAnyH_take (i := 16) (oi := _) (v := ?vz14) rfl (by kernel_rfl) (by kernel_rfl) (by kernel_rfl) (fun _ _ _ h => h) (Or.inl ⟨by rfl, ?hyz14⟩) (by assumption) ?restz14
        case hyz14 => (intro w hSw; (try dsimp only at hSw); go_simp; try (with_reducible rfl))
        try simp only [List.getElem_toArray, List.getElem_cons_zero, List.getElem_cons_succ, Act.put, List.setIfInBounds_toArray, List.set_cons_zero, List.set_cons_succ]
        refine wpAnyH_take (i := 17) (oi := _) (v := ?vz15) rfl (by kernel_rfl) (by kernel_rfl) (by kernel_rfl) (fun _ _ _ h => h) (Or.inl ⟨by rfl, ?hyz15⟩) (by assumption) ?restz15
        case hyz15 => (intro w hSw; (try dsimp only at hSw); go_simp; try (with_reducible rfl))
        try simp only [List.getElem_toArray, List.getElem_cons_zero, List.getElem_cons_succ, Act.put, List.setIfInBounds_toArray, List.set_cons_zero, List.set_cons_succ]
        refine wpAnyH_done (by kernel_rfl) ?_ _
        go_wp2_with fail
        go_ret
        exact ⟨rfl, RD.out.2.2.trans kkc⟩
    · have hk2' : ¬ ((k : Int) < len) := by omega
      clear hk1
      obtain ⟨hL1, hL2, hL3⟩ := HS.out.up.bd
      obtain ⟨m, hm⟩ : ∃ m, m = min 1000 (L - R) := ⟨_, rfl⟩
      have hRm : R + m = L := by omega
      go_wp2_with fail
      refine (up_read HS.out.up hS2 1000 m (by decide) hm).mono ?_
      rintro e w2 ⟨AA, cA, vA, rfl, hbA, huA, kA⟩
      have RD := Lib.hid (HS.out.read kA)
      have HUE := Lib.hid huA
      have HBA := Lib.hid hbA
      have HOR := Lib.hid (BytesV.of_own RD.out.1)
      have hcat0 := cat_bytes (S.take R) ((S.drop R).take m) (S.take L) (by rw [← List.take_add, hRm])
      obtain ⟨bR, hbR⟩ : ∃ z : ByteArray, (⟨(S.take R).toArray⟩ : ByteArray) = z := ⟨_, rfl⟩
      obtain ⟨bX, hbX⟩ : ∃ z : ByteArray, (⟨((S.drop R).take m).toArray⟩ : ByteArray) = z := ⟨_, rfl⟩
      obtain ⟨bx, hbx⟩ : ∃ z : ByteArray, (⟨(S.take L).toArray⟩ : ByteArray) = z := ⟨_, rfl⟩
      have hbl : ¬ (9223372036854775807 < bR.size + bX.size) := by rw [← hbR, ← hbX]; simp [ByteArray.size]; omega
      rw [hbR, hbX, hbx] at hcat0
      have HBR := Lib.hid hbR
      have HBXX := Lib.hid hbX
      have HBX := Lib.hid hbx
      have hsr : ∀ W, Keeps [] w2 W → (convert 28 9 (.slice AR R cR)).run Try.prog W = .ok (.string bR) W := fun W k => by rw [← HBR.out]; exact (HOR.out.keep0 k).str0 (P := Try.prog) 28 9 5 Try.underlying28 Try.underlying5 Try.underlying9
      have hsx : ∀ W, Keeps [] w2 W → (convert 28 9 (.slice AA m cA)).run Try.prog W = .ok (.string bX) W := fun W k => by rw [← HBXX.out]; exact (HBA.out.keep0 k).str0 (P := Try.prog) 28 9 5 Try.underlying28 Try.underlying5 Try.underlying9
      clear hbA huA kA hbR hbX hbx hm hL1 hL2 hL3
      go_upto_region 33 with fail
      refine wp_region_held_drew (S := fun W => Keeps [] w2 W) (by kernel_rfl) (Keeps.drew [] w2) (fun hHeld => ?_)
      refine wpAnyH_take (i := 0) (oi := _) (v := ?vy1) rfl (by kernel_rfl) (by kernel_rfl) (by kernel_rfl) (fun _ _ _ h => h) (Or.inl ⟨by rfl, ?hyy1⟩) (by assumption) ?resty1
      case hyy1 => (intro w hSw; (try dsimp only at hSw); go_simp; try (with_reducible rfl))
      try simp only [List.getElem_toArray, List.getElem_cons_zero, List.getElem_cons_succ, Act.put, List.setIfInBounds_toArray, List.set_cons_zero, List.set_cons_succ]
      refine wpAnyH_take (i := 1) (oi := _) (v := ?vy2) rfl (by kernel_rfl) (by kernel_rfl) (by kernel_rfl) (fun _ _ _ h => h) (Or.inl ⟨by rfl, ?hyy2⟩) (by assumption) ?resty2
      case hyy2 => (intro w hSw; (try dsimp only at hSw); go_simp; try (with_reducible rfl))
      try simp only [List.getElem_toArray, List.getElem_cons_zero, List.getElem_cons_succ, Act.put, List.setIfInBounds_toArray, List.set_cons_zero, List.set_cons_succ]
      refine wpAnyH_take (i := 2) (oi := _) (v := ?vy3) rfl (by kernel_rfl) (by kernel_rfl) (by kernel_rfl) (fun _ _ _ h => h) (Or.inl ⟨by rfl, ?hyy3⟩) (by assumption) ?resty3
      case hyy3 => (intro w hSw; (try dsimp only at hSw); go_simp; try (with_reducible rfl))
      try simp only [List.getElem_toArray, List.getElem_cons_zero, List.getElem_cons_succ, Act.put, List.setIfInBounds_toArray, List.set_cons_zero, List.set_cons_succ]
      refine wpAnyH_take (i := 3) (oi := _) (v := ?vy4) rfl (by kernel_rfl) (by kernel_rfl) (by kernel_rfl) (fun _ _ _ h => h) (Or.inl ⟨by rfl, ?hyy4⟩) (by assumption) ?resty4
      case hyy4 => (intro w hSw; (try dsimp only at hSw); go_simp; try (with_reducible rfl))
      try simp only [List.getElem_toArray, List.getElem_cons_zero, List.getElem_cons_succ, Act.put, List.setIfInBounds_toArray, List.set_cons_zero, List.set_cons_succ]
      refine wpAnyH_take (i := 4) (oi := _) (v := ?vy5) rfl (by kernel_rfl) (by kernel_rfl) (by kernel_rfl) (fun _ _ _ h => h) (Or.inl ⟨by rfl, ?hyy5⟩) (by assumption) ?resty5
      case hyy5 => (intro w hSw; (try dsimp only at hSw); go_simp; try (with_reducible rfl))
      try simp only [List.getElem_toArray, List.getElem_cons_zero, List.getElem_cons_succ, Act.put, List.setIfInBounds_toArray, List.set_cons_zero, List.set_cons_succ]
      refine wpAnyH_take (i := 5) (oi := _) (v := ?vy6) rfl (by kernel_rfl) (by kernel_rfl) (by kernel_rfl) (fun _ _ _ h => h) (Or.inl ⟨by rfl, ?hyy6⟩) (by assumption) ?resty6
      case hyy6 => (intro w hSw; (try dsimp only at hSw); go_simp; try (with_reducible rfl))
      try simp only [List.getElem_toArray, List.getElem_cons_zero, List.getElem_cons_succ, Act.put, List.setIfInBounds_toArray, List.set_cons_zero, List.set_cons_succ]
      refine wpAnyH_ready (rs := [6]) (by kernel_rfl) (by simp) ?_
      refine AllReadyH.cons (o := _) rfl (fun K hK => ?_) AllReadyH.nil
      simp only [List.getElem_toArray, List.getElem_cons_zero, List.getElem_cons_succ]
      go_simp
      refine (up_got (HUE.out.keep0 (Keeps.drew [] w2)) hS2).mono ?_
      rintro e wa ⟨Aa, ca, rfl, ba, ka⟩
      have kka : Keeps [] w2 wa := (Keeps.drew [] w2).trans ka
      have BA := Lib.hid ba
      have hsa : ∀ W, Keeps [] wa W → (convert 28 9 (.slice Aa L ca)).run Try.prog W = .ok (.string bx) W := fun W k => by rw [← HBX.out]; exact (BA.out.keep0 k).str0 (P := Try.prog) 28 9 5 Try.underlying28 Try.underlying5 Try.underlying9
      clear ka ba hHeld
      refine hK.out _ _ (kka) (fun hHeld => ?_)
      clear hK K
      try simp only [List.getElem_toArray, List.getElem_cons_zero, List.getElem_cons_succ, Act.put, List.setIfInBounds_toArray, List.set_cons_zero, List.set_cons_succ]
      refine wpAnyH_mono (S' := fun W => Keeps [] wa W) (fun W k => kka.trans k) _ _ _ _ ?_
      have hHeldB : Keeps [] wa wa := Keeps.refl _ _
      refine wpAnyH_take (i := 7) (oi := _) (v := ?vy7) rfl (by kernel_rfl) (by kernel_rfl) (by kernel_rfl) (fun _ _ _ h => h) (Or.inl ⟨by rfl, ?hyy7⟩) (by assumption) ?resty7
      case hyy7 => (intro w hSw; (try dsimp only at hSw); go_simp; try (with_reducible rfl))
      try simp only [List.getElem_toArray, List.getElem_cons_zero, List.getElem_cons_succ, Act.put, List.setIfInBounds_toArray, List.set_cons_zero, List.set_cons_succ]
      refine wpAnyH_take (i := 8) (oi := _) (v := ?vy8) rfl (by kernel_rfl) (by kernel_rfl) (by kernel_rfl) (fun _ _ _ h => h) (Or.inl ⟨by rfl, ?hyy8⟩) (by assumption) ?resty8
      case hyy8 => (intro w hSw; (try dsimp only at hSw); go_simp; try (with_reducible rfl))
      try simp only [List.getElem_toArray, List.getElem_cons_zero, List.getElem_cons_succ, Act.put, List.setIfInBounds_toArray, List.set_cons_zero, List.set_cons_succ]
      refine wpAnyH_take (i := 9) (oi := _) (v := ?vy9) rfl (by kernel_rfl) (by kernel_rfl) (by kernel_rfl) (fun _ _ _ h => h) (Or.inl ⟨by rfl, ?hyy9⟩) (by assumption) ?resty9
      case hyy9 => (intro w hSw; (try dsimp only at hSw); go_simp; try (with_reducible rfl))
      try simp only [List.getElem_toArray, List.getElem_cons_zero, List.getElem_cons_succ, Act.put, List.setIfInBounds_toArray, List.set_cons_zero, List.set_cons_succ]
      refine wpAnyH_take (i := 10) (oi := _) (v := ?vy10) rfl (by kernel_rfl) (by kernel_rfl) (by kernel_rfl) (fun _ _ _ h => h) (Or.inl ⟨by rfl, ?hyy10⟩) (by assumption) ?resty10
      case hyy10 => (intro w hSw; (try dsimp only at hSw); go_simp; try (with_reducible rfl))
      try simp only [List.getElem_toArray, List.getElem_cons_zero, List.getElem_cons_succ, Act.put, List.setIfInBounds_toArray, List.set_cons_zero, List.set_cons_succ]
      refine wpAnyH_ready (rs := [11]) (by kernel_rfl) (by simp) ?_
      refine AllReadyH.cons (o := _) rfl (fun K hK => ?_) AllReadyH.nil
      simp only [List.getElem_toArray, List.getElem_cons_zero, List.getElem_cons_succ]
      go_simp
      refine (up_state (HUE.out.keep0 kka)).mono ?_
      rintro e w6 ⟨rfl, rfl⟩
      clear hHeldB
      refine hK.out _ _ (Keeps.refl _ _) (fun hHeld => ?_)
      clear hK K
      try simp only [List.getElem_toArray, List.getElem_cons_zero, List.getElem_cons_succ, Act.put, List.setIfInBounds_toArray, List.set_cons_zero, List.set_cons_succ]
      refine wpAnyH_take (i := 12) (oi := _) (v := ?vy11) rfl (by kernel_rfl) (by kernel_rfl) (by kernel_rfl) (fun _ _ _ h => h) (Or.inl ⟨by rfl, ?hyy11⟩) (by assumption) ?resty11
      case hyy11 => (intro w hSw; (try dsimp only at hSw); go_simp; try (with_reducible rfl))
      try simp only [List.getElem_toArray, List.getElem_cons_zero, List.getElem_cons_succ, Act.put, List.setIfInBounds_toArray, List.set_cons_zero, List.set_cons_succ]
      refine wpAnyH_take (i := 13) (oi := _) (v := ?vy12) rfl (by kernel_rfl) (by kernel_rfl) (by kernel_rfl) (fun _ _ _ h => h) (Or.inl ⟨by rfl, ?hyy12⟩) (by assumption) ?resty12
      case hyy12 => (intro w hSw; (try dsimp only at hSw); go_simp; try (with_reducible rfl))
      try simp only [List.getElem_toArray, List.getElem_cons_zero, List.getElem_cons_succ, Act.put, List.setIfInBounds_toArray, List.set_cons_zero, List.set_cons_succ]
      refine wpAnyH_take (i := 14) (oi := _) (v := ?vy13) rfl (by kernel_rfl) (by kernel_rfl) (by kernel_rfl) (fun _ _ _ h => h) (Or.inl ⟨by rfl, ?hyy13⟩) (by assumption) ?resty13
      case hyy13 => (intro w hSw; (try dsimp only at hSw); go_simp; try (with_reducible rfl))
      try simp only [List.getElem_toArray, List.getElem_cons_zero, List.getElem_cons_succ, Act.put, List.setIfInBounds_toArray, List.set_cons_zero, List.set_cons_succ]
      refine wpAnyH_ready (rs := [15]) (by kernel_rfl) (by simp) ?_
      refine AllReadyH.cons (o := _) rfl (fun K hK => ?_) AllReadyH.nil
      simp only [List.getElem_toArray, List.getElem_cons_zero, List.getElem_cons_succ]
      go_simp
      refine (wakes_any _).mono ?_
      rintro e wc ⟨rfl, kc⟩
      have kkc : Keeps [] w2 wc := kka.trans kc
      have kac := kc
      clear kc hHeld
      refine hK.out _ _ (kac) (fun hHeld => ?_)
      clear hK K
      try simp only [List.getElem_toArray, List.getElem_cons_zero, List.getElem_cons_succ, Act.put, List.setIfInBounds_toArray, List.set_cons_zero, List.set_cons_succ]
      refine wpAnyH_take (i := 16) (oi := _) (v := ?vy14) rfl (by kernel_rfl) (by kernel_rfl) (by kernel_rfl) (fun _ _ _ h => h) (Or.inl ⟨by rfl, ?hyy14⟩) (by assumption) ?resty14
      case hyy14 => (intro w hSw; (try dsimp only at hSw); go_simp; try (with_reducible rfl))
      try simp only [List.getElem_toArray, List.getElem_cons_zero, List.getElem_cons_succ, Act.put, List.setIfInBounds_toArray, List.set_cons_zero, List.set_cons_succ]
      refine wpAnyH_take (i := 17) (oi := _) (v := ?vy15) rfl (by kernel_rfl) (by kernel_rfl) (by kernel_rfl) (fun _ _ _ h => h) (Or.inl ⟨by rfl, ?hyy15⟩) (by assumption) ?resty15
      case hyy15 => (intro w hSw; (try dsimp only at hSw); go_simp; try (with_reducible rfl))
      try simp only [List.getElem_toArray, List.getElem_cons_zero, List.getElem_cons_succ, Act.put, List.setIfInBounds_toArray, List.set_cons_zero, List.set_cons_succ]
      refine wpAnyH_done (by kernel_rfl) ?_ _
      go_wp2_with fail
      go_ret
      exact ⟨rfl, RD.out.2.2.trans kkc⟩
end Go.Proofs.Ytgaidloicmkdaaa
