/-
  The walk of the document's own Body. Condition: at most 1,000 bytes beside; a name that may be, or none.
-/
import Derived.Test.YthcpeceamiibaaaDoorTlsRg
namespace Go.Proofs.YthcpeceamiibaaaDoor
open Go.RowKit Go.Lib
set_option linter.unusedVariables false
set_option linter.unusedSimpArgs false

theorem own_row_at {w : World} {B : Nat} {v : Value} {l : List UInt8} (h : OwnB w B v l) (hl : l ≠ []) : ∃ g c, v = .slice (some ⟨g, 0, none⟩) l.length c ∧ g < w.heap.size ∧ B ≤ g := by
  rcases h.2 with ⟨_, h0⟩ | ⟨g, cap, cur, rfl, hB, hb, _⟩
  · exact absurd (List.eq_nil_of_length_eq_zero h0) hl
  · exact ⟨g, cap, rfl, lt_of_block hb, hB⟩
theorem own_block_ge {w : World} {B : Nat} {v : Value} {l : List UInt8} (h : OwnB w B v l) {j : Nat} (hj : v.ownBlock = some j) : B ≤ j := by
  rcases h.2 with ⟨rfl, _⟩ | ⟨g, cap, cur, rfl, hB, _⟩
  · cases hj
  · have : g = j := by injection hj
    omega
set_option maxRecDepth 100000 in
set_option maxHeartbeats 16000000 in
theorem rbody_none (w : World) (name : ByteArray) (hnm : name = ByteArray.empty) (A1 A2 : Option Addr) (n1 n2 c1 c2 : Nat) (before behind : List UInt8) (hb1 : BytesV w (.slice A1 n1 c1) before) (hb2 : BytesV w (.slice A2 n2 c2) behind) (hn1 : n1 ≤ 1000) (hn2 : n2 ≤ 1000) :
    Calls Tryd.prog 43 #[.string name, .slice A1 n1 c1, .slice A2 n2 c2] w fun en w' => ∃ v, en = .returned v ∧ OwnB w' w.heap.size v (allB name.data.toList before behind) ∧ Keeps [] w w' := by
  obtain ⟨res, hres⟩ : ∃ res, allB name.data.toList before behind = res := ⟨_, rfl⟩
  rw [hres]
  have hl1 : before.length = n1 := hb1.form.1.symm
  have hl2 : behind.length = n2 := hb2.form.1.symm
  have HB1 := Lib.hid hb1
  have HB2 := Lib.hid hb2
  have HL := Lib.hid (And.intro hl1 (And.intro hl2 (And.intro hn1 hn2)))
  have HRES := Lib.hid hres
  subst hnm
  clear hb1 hb2 hl1 hl2 hres
  go_enter Tryd.func43, Tryd.ntmps43
  go_wp2_with fail
  refine calls_gn fun w1 hw1 => ?_
  have HA1 := Lib.hid (show OwnB w1 w.heap.size _ [0, 16] by rw [hw1]; exact OwnB.new w #[.int .u8 0, .int .u8 16] [0, 16] rfl (by simp))
  have HK1 := Lib.hid (show Keeps [] w w1 by rw [hw1]; exact Keeps.alloc [] w _)
  have HW1 := Lib.hid (rwith_any w1 _ before (HB1.out.keep0 HK1.out) (by have := HL.out; omega))
  refine HW1.out.mono ?_
  rintro en w2 ⟨v2, rfl, ho2, k2⟩
  have HO2 := Lib.hid ho2
  have HA2 := Lib.hid (HA1.out.keep0 k2)
  have HK2 := Lib.hid (HK1.out.trans k2)
  clear ho2 k2 HW1 hw1
  go_wp2_with (at_builtin; first | (refine app_W rfl _ _ w (HK2.out) rfl _ ([0, 16]) rfl (HA2.out) _ (withL before) rfl (HO2.out.bytes) (by simp only [List.length_append, withL_len, List.length_cons, List.length_nil, u16L, List.length_replicate]; have h1 := HL.out; omega) ?_; intro v3 w3 ho3 hk3) | (refine app_W rfl _ _ w (hk3.alloc' _) rfl _ ([0, 16] ++ withL before) rfl (ho3.keep0 (Keeps.alloc [] w3 _)) _ ([0, 21]) rfl ((OwnB.new w3 #[.int .u8 0, .int .u8 21] [0, 21] rfl (by simp)).bytes) (by simp only [List.length_append, withL_len, List.length_cons, List.length_nil, u16L, List.length_replicate]; have h1 := HL.out; omega) ?_; intro v4 w4 ho4 hk4))
  have HW4 := Lib.hid (rwith_any w4 _ behind (HB2.out.keep0 hk4) (by have := HL.out; omega))
  refine HW4.out.mono ?_
  rintro en w5 ⟨v5, rfl, ho5, k5⟩
  have HO5 := Lib.hid ho5
  have HA5 := Lib.hid (ho4.keep0 k5)
  have HK5 := Lib.hid (hk4.trans k5)
  obtain ⟨EX, hEX⟩ : ∃ EX, [0, 16] ++ withL before ++ [0, 21] ++ withL behind = EX := ⟨_, rfl⟩
  have hEl : EX.length ≤ 3000 := by rw [← hEX]; simp only [List.length_append, withL_len, List.length_cons, List.length_nil, u16L, List.length_replicate]; have h1 := HL.out; omega
  have HEX := Lib.hid hEX
  have HEL := Lib.hid hEl
  clear ho5 k5 HW4 hEX hEl ho4 hk4 ho3 hk3
  go_wp2_with (at_builtin; first | (refine app_W rfl _ _ w (HK5.out) rfl _ ([0, 16] ++ withL before ++ [0, 21]) rfl (HA5.out) _ (withL behind) rfl (HO5.out.bytes) (by simp only [List.length_append, withL_len, List.length_cons, List.length_nil, u16L, List.length_replicate]; have h1 := HL.out; omega) ?_; intro v6 w6 ho6 hk6; rw [HEX.out] at ho6))
  have HO6 := Lib.hid ho6
  have HK6 := Lib.hid hk6
  refine wp_gn fun w7 hw7 => ?_
  have HO7 := Lib.hid (show OwnB w7 w6.heap.size (.slice (some ⟨w6.heap.size, 0, none⟩) 2 2) [3, 3] by rw [hw7]; exact OwnB.new w6 #[.int .u8 3, .int .u8 3] [3, 3] rfl (by simp))
  have HK7 := Lib.hid (show Keeps [] w6 w7 by rw [hw7]; exact Keeps.alloc [] w6 _)
  clear ho6 hk6 hw7
  go_loopw [9, 10] (fun bv iv wr => ∃ i : Nat, iv = .int .i64 i ∧ i ≤ 33 ∧ Hid (OwnB wr w6.heap.size bv ([3, 3] ++ List.replicate i 0)) ∧ Hid (Keeps [] w6 wr)) (fun _ iv _ => 33 - (intOf iv).toNat)
  case atStart => exact ⟨0, rfl, by omega, HO7, HK7⟩
  case round =>
    obtain ⟨i, rfl, hi, HO, HK⟩ := hrel
    by_cases hlt : i < 33
    · have hlt' : (i : Int) < 33 := by omega
      go_wp2_with (at_builtin; refine app_W rfl _ _ w6 (HK.out.alloc' _) rfl _ ([3, 3] ++ List.replicate i 0) rfl (HO.out.keep0 (Keeps.alloc [] wr _)) _ [0] rfl (OwnB.new wr #[.int .u8 0] [0] rfl (by simp)).bytes (by simp; omega) ?_; intro v8 w8 ho8 hk8)
      refine ⟨⟨i + 1, by simp, hlt, Lib.hid (by rw [List.append_assoc, ← List.replicate_succ'] at ho8; exact ho8), Lib.hid hk8⟩, ?_⟩
      have e1 : (intOf (Value.int .i64 ((i : Int) + 1))).toNat = i + 1 := by show ((i : Int) + 1).toNat = i + 1; omega
      have e2 : (intOf (Value.int .i64 (i : Int))).toNat = i := by show ((i : Int)).toNat = i; omega
      try rw [e1, e2]
      try omega
    · obtain rfl : i = 33 := by omega
      have hlt' : ¬ ((33 : Nat) : Int) < 33 := by omega
      obtain ⟨BB, hBB⟩ : ∃ BB, [3, 3] ++ List.replicate 33 0 ++ [0, 2, 0, 47, 1, 0] ++ withL EX = BB := ⟨_, rfl⟩
      have hBl : BB.length = EX.length + 43 := by rw [← hBB]; simp only [List.length_append, withL_len, List.length_cons, List.length_nil, List.length_replicate]; omega
      obtain ⟨N, hN⟩ : ∃ N, BB.length = N := ⟨_, rfl⟩
      have hNb : N < 65536 := by have := HEL.out; omega
      have HBB := Lib.hid hBB
      have HN := Lib.hid hN
      clear hBB hN hBl
      go_wp2_with (at_builtin; first | (refine app_W rfl _ _ w6 (HK.out.alloc' _) rfl _ ([3, 3] ++ List.replicate 33 0) rfl (HO.out.keep0 (Keeps.alloc [] wr _)) _ ([0, 2, 0, 47, 1, 0]) rfl ((OwnB.new wr #[.int .u8 0, .int .u8 2, .int .u8 0, .int .u8 47, .int .u8 1, .int .u8 0] [0, 2, 0, 47, 1, 0] rfl (by simp)).bytes) (by simp) ?_; intro v8 w8 ho8 hk8))
      have HW8 := Lib.hid (rwith_any w8 _ EX ((HO6.out.keep0 hk8).bytes) (by have := HEL.out; omega))
      refine HW8.out.mono ?_
      rintro en w9 ⟨v9, rfl, ho9, k9⟩
      have HO9 := Lib.hid ho9
      have HA9 := Lib.hid (ho8.keep0 k9)
      have HK9 := Lib.hid (hk8.trans k9)
      clear ho9 k9 HW8 ho8 hk8
      go_wp2_with (at_builtin; first | (refine app_W rfl _ _ w6 (HK9.out) rfl _ ([3, 3] ++ List.replicate 33 0 ++ [0, 2, 0, 47, 1, 0]) rfl (HA9.out) _ (withL EX) rfl (HO9.out.bytes) (by simp only [List.length_append, withL_len, List.length_cons, List.length_nil, List.length_replicate]; have := HEL.out; omega) ?_; intro v10 w10 ho10 hk10; rw [HBB.out] at ho10; obtain ⟨A10, c10, e10⟩ := ho10.form; rw [HN.out] at e10; subst e10))
      refine calls_gn fun w11 hw11 => ?_
      have HK11 := Lib.hid (show Keeps [] w10 w11 by rw [hw11]; exact Keeps.alloc [] w10 _)
      have HLA := Lib.hid (lay3_any w11 _ (show BytesV w11 (.slice (some ⟨w10.heap.size, 0, none⟩) 1 1) [1] by rw [hw11]; exact (OwnB.new w10 #[.int .u8 1] [1] rfl (by simp)).bytes) N hNb)
      have HO10 := Lib.hid ho10
      have HK10 := Lib.hid (HK6.out.trans hk10)
      clear hw11 ho10 hk10
      refine HLA.out.mono ?_
      rintro en w12 ⟨v12, rfl, ho12, k12⟩
      have HO12 := Lib.hid ho12
      have HK12 := Lib.hid k12
      clear ho12 k12 HLA
      go_wp2_with (at_builtin; first | (refine app_W rfl _ _ w11 (HK12.out) rfl _ ([1, UInt8.ofNat (N / 65536), UInt8.ofNat (N / 256), UInt8.ofNat N]) rfl (HO12.out) _ (BB) rfl (((HO10.out.keep0 HK11.out).keep0 HK12.out).bytes) (by have := HN.out; simp; omega) ?_; intro v13 w13 ho13 hk13))
      go_ret
      have hk : Keeps [] w w13 := HK10.out.trans (HK11.out.trans hk13)
      have e : allB ByteArray.empty.data.toList before behind = [1, UInt8.ofNat (N / 65536), UInt8.ofNat (N / 256), UInt8.ofNat N] ++ BB := by
        have e2 : allB ByteArray.empty.data.toList before behind = [1, 0] ++ u16L BB.length ++ BB := by
          rw [← HBB.out, ← HEX.out]
          unfold allB bodyB extB; rw [if_pos (show ByteArray.empty.data.toList = [] from rfl)]; simp only [List.append_nil]
        rw [e2, HN.out]
        have h0 : UInt8.ofNat (N / 65536) = 0 := by rw [Nat.div_eq_of_lt (by omega)]; rfl
        rw [h0]
        rfl
      rw [← HRES.out, e]
      exact ⟨_, rfl, ho13.weak (Nat.le_trans HK10.out.size HK11.out.size), hk⟩
set_option maxRecDepth 100000 in
set_option maxHeartbeats 16000000 in
theorem rbody_named (w : World) (name : ByteArray) (hnm : name.data.toList ≠ [] ∧ name.size ≤ 253) (A1 A2 : Option Addr) (n1 n2 c1 c2 : Nat) (before behind : List UInt8) (hb1 : BytesV w (.slice A1 n1 c1) before) (hb2 : BytesV w (.slice A2 n2 c2) behind) (hn1 : n1 ≤ 1000) (hn2 : n2 ≤ 1000) :
    Calls Tryd.prog 43 #[.string name, .slice A1 n1 c1, .slice A2 n2 c2] w fun en w' => ∃ v, en = .returned v ∧ OwnB w' w.heap.size v (allB name.data.toList before behind) ∧ Keeps [] w w' := by
  obtain ⟨res, hres⟩ : ∃ res, allB name.data.toList before behind = res := ⟨_, rfl⟩
  rw [hres]
  have hl1 : before.length = n1 := hb1.form.1.symm
  have hl2 : behind.length = n2 := hb2.form.1.symm
  have HB1 := Lib.hid hb1
  have HB2 := Lib.hid hb2
  have HL := Lib.hid (And.intro hl1 (And.intro hl2 (And.intro hn1 hn2)))
  have HRES := Lib.hid hres
  obtain ⟨hne, hns⟩ := hnm
  have hE : name.toList.isEmpty = false := by rw [Lib.toList_data]; cases h : name.data.toList with
    | nil => exact absurd h hne
    | cons a l => rfl
  have HNE := Lib.hid (And.intro hne hns)
  have HNS := Lib.hid (show name.data.toList.length ≤ 253 by rw [← size_eq]; exact hns)
  clear hne hns
  clear hb1 hb2 hl1 hl2 hres
  go_enter Tryd.func43, Tryd.ntmps43
  go_wp2_with fail
  refine calls_gn fun w1 hw1 => ?_
  have HA1 := Lib.hid (show OwnB w1 w.heap.size _ [0, 16] by rw [hw1]; exact OwnB.new w #[.int .u8 0, .int .u8 16] [0, 16] rfl (by simp))
  have HK1 := Lib.hid (show Keeps [] w w1 by rw [hw1]; exact Keeps.alloc [] w _)
  have HW1 := Lib.hid (rwith_any w1 _ before (HB1.out.keep0 HK1.out) (by have := HL.out; omega))
  refine HW1.out.mono ?_
  rintro en w2 ⟨v2, rfl, ho2, k2⟩
  have HO2 := Lib.hid ho2
  have HA2 := Lib.hid (HA1.out.keep0 k2)
  have HK2 := Lib.hid (HK1.out.trans k2)
  clear ho2 k2 HW1 hw1
  have hcv := fun w => Go.Lib.run_convert_string_bytes (P := Tryd.prog) w 9 22 5 name (u := .string) Tryd.underlying9 Tryd.underlying22 Tryd.underlying5
  go_wp2_with (at_builtin; first | (refine app_W rfl _ _ w (HK2.out) rfl _ ([0, 16]) rfl (HA2.out) _ (withL before) rfl (HO2.out.bytes) (by have h2 := HNS.out; simp only [List.length_append, withL_len, List.length_cons, List.length_nil, u16L, List.length_replicate]; have h1 := HL.out; omega) ?_; intro v3 w3 ho3 hk3))
  obtain ⟨wq, hwq⟩ : ∃ wq, w3.alloc (.cells #[.int .u8 0] 5) = wq := ⟨_, rfl⟩
  have hqs : wq.heap.size = w3.heap.size + 1 := by rw [← hwq]; exact Array.size_push ..
  have HOQ := Lib.hid (show OwnB wq w3.heap.size (.slice (some ⟨w3.heap.size, 0, none⟩) 1 1) [0] by rw [← hwq]; exact OwnB.new w3 #[.int .u8 0] [0] rfl (by simp))
  have HKQ := Lib.hid (show Keeps [] w3 wq by rw [← hwq]; exact Keeps.alloc [] w3 _)
  refine calls_gn fun w22 hw22 => ?_
  have hw22' : w22 = bytesWorld wq 5 name := by rw [hw22, ← hwq]
  have HK22 := Lib.hid (show Keeps [] wq w22 by rw [hw22']; exact Below.keeps ⟨rfl, rfl, rfl, by rw [bytesWorld_size]; omega, fun j hj => bytesWorld_at_old wq _ name j hj⟩)
  have hnb : BytesV w22 (.slice (some ⟨wq.heap.size, 0, none⟩) name.size (grownCap wq name.size 0 5)) name.data.toList := by
    refine ⟨some ⟨wq.heap.size, 0, none⟩, _, by rw [size_eq], by rw [← size_eq]; exact grownCap_ge wq _ _ _, grownCap_le (by have := HNE.out.2; simp [maxLen]; omega), fun hp => ⟨wq.heap.size, 0, rfl, fun i x hx => ?_⟩⟩
    have hi : i < name.size := by rw [size_eq]; exact (List.getElem?_eq_some_iff.1 hx).1
    rw [hw22', Nat.zero_add, bytesWorld_cell wq _ name i hi, List.getD_eq_getElem?_getD, hx]
    rfl
  rw [hqs] at hnb
  have HW22 := Lib.hid (rwith_any w22 _ name.data.toList hnb (by have := HNS.out; omega))
  have HO3 := Lib.hid ho3
  have HK3 := Lib.hid hk3
  clear hnb hw22 hw22' hcv ho3 hk3
  rw [hwq]
  clear hwq
  refine HW22.out.mono ?_
  rintro en w23 ⟨v23, rfl, ho23, k23⟩
  have HO23 := Lib.hid ho23
  have HKR := Lib.hid (HKQ.out.trans (HK22.out.trans k23))
  have HOR := Lib.hid ((HOQ.out.keep0 HK22.out).keep0 k23)
  clear ho23 k23 HW22
  obtain ⟨g3, c3, e3, hg3, hB3⟩ := own_row_at HO3.out (by simp)
  have HG3 := Lib.hid (And.intro e3 hg3)
  clear e3
  go_wp2_with (at_builtin; first | (refine app_W rfl _ _ w3 (HKR.out) rfl _ ([0]) rfl (HOR.out) _ (withL name.data.toList) rfl (HO23.out.bytes) (by have h2 := HNS.out; simp only [List.length_append, withL_len, List.length_cons, List.length_nil, u16L, List.length_replicate]; have h1 := HL.out; omega) ?_; intro v24 w24 ho24 hk24) | (refine wpList_append_bytes rfl _ _ w.heap.size 22 5 rfl Tryd.underlying22 Tryd.infoU8 _ _ ([0, 16] ++ withL before) rfl ((HO3.out.keep0 hk24).keep0 (Keeps.alloc [] w24 _)) _ [0, 0] rfl (OwnB.new w24 #[.int .u8 0, .int .u8 0] [0, 0] rfl (by simp)).bytes (by have h2 := HNS.out; simp only [List.length_append, withL_len, List.length_cons, List.length_nil, u16L, List.length_replicate]; have h1 := HL.out; omega) ((HK3.out.trans hk24).alloc' _).size ?_; intro v25 w25 ho25 hg25 _ _))
  have HO25 := Lib.hid (show OwnB w25 w.heap.size v25 ([0, 16] ++ withL before ++ [0, 0]) by unfold OwnB; rw [List.length_append]; exact ho25)
  have HK25 := Lib.hid (show Keeps [] w w25 from grow_keeps ((HK3.out.trans hk24).alloc' _) ((HO3.out.keep0 hk24).keep0 (Keeps.alloc [] w24 _)) (Nat.le_refl _) hg25)
  have HO24 := Lib.hid (show OwnB w25 w3.heap.size v24 ([0] ++ withL name.data.toList) by
    rw [HG3.out.1] at hg25
    exact own_keepS (ho24.keep0 (Keeps.alloc [] w24 _)) (Keeps.grown hg25) (fun j hj => by
      have h1 := own_block_ge ho24 hj
      have h2 := HG3.out.2
      simp
      omega))
  have HW25 := Lib.hid (rwith_any w25 v24 ([0] ++ withL name.data.toList) HO24.out.bytes (by have h2 := HNS.out; simp only [List.length_append, withL_len, List.length_cons, List.length_nil, u16L, List.length_replicate]; have h1 := HL.out; omega))
  clear ho25 hg25 ho24 hk24
  refine HW25.out.mono ?_
  rintro en w26 ⟨v26, rfl, ho26, k26⟩
  have HK26 := Lib.hid k26
  have HW26 := Lib.hid (rwith_any w26 v26 _ ho26.bytes (by have h2 := HNS.out; simp only [List.length_append, withL_len, List.length_cons, List.length_nil, u16L, List.length_replicate]; have h1 := HL.out; omega))
  clear ho26 k26 HW25
  go_wp2_with fail
  refine HW26.out.mono ?_
  rintro en w27 ⟨v27, rfl, ho27, k27⟩
  have HO27 := Lib.hid ho27
  have HK27 := Lib.hid (HK26.out.trans k27)
  clear ho27 k27 HW26
  go_wp2_with (at_builtin; first | (refine app_W rfl _ _ w (HK25.out.trans HK27.out) rfl _ ([0, 16] ++ withL before ++ [0, 0]) rfl (HO25.out.keep0 HK27.out) _ (withL (withL ([0] ++ withL name.data.toList))) rfl (HO27.out.bytes) (by have h2 := HNS.out; simp only [List.length_append, withL_len, List.length_cons, List.length_nil, u16L, List.length_replicate]; have h1 := HL.out; omega) ?_; intro v28 w28 ho28 hk28) | (refine app_W rfl _ _ w (hk28.alloc' _) rfl _ ([0, 16] ++ withL before ++ [0, 0] ++ withL (withL ([0] ++ withL name.data.toList))) rfl (ho28.keep0 (Keeps.alloc [] w28 _)) _ ([0, 21]) rfl ((OwnB.new w28 #[.int .u8 0, .int .u8 21] [0, 21] rfl (by simp)).bytes) (by have h2 := HNS.out; simp only [List.length_append, withL_len, List.length_cons, List.length_nil, u16L, List.length_replicate]; have h1 := HL.out; omega) ?_; intro v4 w4 ho4 hk4))
  have HW4 := Lib.hid (rwith_any w4 _ behind (HB2.out.keep0 hk4) (by have := HL.out; omega))
  refine HW4.out.mono ?_
  rintro en w5 ⟨v5, rfl, ho5, k5⟩
  have HO5 := Lib.hid ho5
  have HA5 := Lib.hid (ho4.keep0 k5)
  have HK5 := Lib.hid (hk4.trans k5)
  obtain ⟨EX, hEX⟩ : ∃ EX, [0, 16] ++ withL before ++ [0, 0] ++ withL (withL ([0] ++ withL name.data.toList)) ++ [0, 21] ++ withL behind = EX := ⟨_, rfl⟩
  have hEl : EX.length ≤ 3000 := by rw [← hEX]; have h2 := HNS.out; simp only [List.length_append, withL_len, List.length_cons, List.length_nil, u16L, List.length_replicate]; have h1 := HL.out; omega
  have HEX := Lib.hid hEX
  have HEL := Lib.hid hEl
  clear ho5 k5 HW4 hEX hEl ho4 hk4 ho28 hk28
  go_wp2_with (at_builtin; first | (refine app_W rfl _ _ w (HK5.out) rfl _ ([0, 16] ++ withL before ++ [0, 0] ++ withL (withL ([0] ++ withL name.data.toList)) ++ [0, 21]) rfl (HA5.out) _ (withL behind) rfl (HO5.out.bytes) (by have h2 := HNS.out; simp only [List.length_append, withL_len, List.length_cons, List.length_nil, u16L, List.length_replicate]; have h1 := HL.out; omega) ?_; intro v6 w6 ho6 hk6; rw [HEX.out] at ho6))
  have HO6 := Lib.hid ho6
  have HK6 := Lib.hid hk6
  refine wp_gn fun w7 hw7 => ?_
  have HO7 := Lib.hid (show OwnB w7 w6.heap.size (.slice (some ⟨w6.heap.size, 0, none⟩) 2 2) [3, 3] by rw [hw7]; exact OwnB.new w6 #[.int .u8 3, .int .u8 3] [3, 3] rfl (by simp))
  have HK7 := Lib.hid (show Keeps [] w6 w7 by rw [hw7]; exact Keeps.alloc [] w6 _)
  clear ho6 hk6 hw7
  go_loopw [9, 10] (fun bv iv wr => ∃ i : Nat, iv = .int .i64 i ∧ i ≤ 33 ∧ Hid (OwnB wr w6.heap.size bv ([3, 3] ++ List.replicate i 0)) ∧ Hid (Keeps [] w6 wr)) (fun _ iv _ => 33 - (intOf iv).toNat)
  case atStart => exact ⟨0, rfl, by omega, HO7, HK7⟩
  case round =>
    obtain ⟨i, rfl, hi, HO, HK⟩ := hrel
    by_cases hlt : i < 33
    · have hlt' : (i : Int) < 33 := by omega
      go_wp2_with (at_builtin; refine app_W rfl _ _ w6 (HK.out.alloc' _) rfl _ ([3, 3] ++ List.replicate i 0) rfl (HO.out.keep0 (Keeps.alloc [] wr _)) _ [0] rfl (OwnB.new wr #[.int .u8 0] [0] rfl (by simp)).bytes (by simp; omega) ?_; intro v8 w8 ho8 hk8)
      refine ⟨⟨i + 1, by simp, hlt, Lib.hid (by rw [List.append_assoc, ← List.replicate_succ'] at ho8; exact ho8), Lib.hid hk8⟩, ?_⟩
      have e1 : (intOf (Value.int .i64 ((i : Int) + 1))).toNat = i + 1 := by show ((i : Int) + 1).toNat = i + 1; omega
      have e2 : (intOf (Value.int .i64 (i : Int))).toNat = i := by show ((i : Int)).toNat = i; omega
      try rw [e1, e2]
      try omega
    · obtain rfl : i = 33 := by omega
      have hlt' : ¬ ((33 : Nat) : Int) < 33 := by omega
      obtain ⟨BB, hBB⟩ : ∃ BB, [3, 3] ++ List.replicate 33 0 ++ [0, 2, 0, 47, 1, 0] ++ withL EX = BB := ⟨_, rfl⟩
      have hBl : BB.length = EX.length + 43 := by rw [← hBB]; simp only [List.length_append, withL_len, List.length_cons, List.length_nil, List.length_replicate]; omega
      obtain ⟨N, hN⟩ : ∃ N, BB.length = N := ⟨_, rfl⟩
      have hNb : N < 65536 := by have := HEL.out; omega
      have HBB := Lib.hid hBB
      have HN := Lib.hid hN
      clear hBB hN hBl
      go_wp2_with (at_builtin; first | (refine app_W rfl _ _ w6 (HK.out.alloc' _) rfl _ ([3, 3] ++ List.replicate 33 0) rfl (HO.out.keep0 (Keeps.alloc [] wr _)) _ ([0, 2, 0, 47, 1, 0]) rfl ((OwnB.new wr #[.int .u8 0, .int .u8 2, .int .u8 0, .int .u8 47, .int .u8 1, .int .u8 0] [0, 2, 0, 47, 1, 0] rfl (by simp)).bytes) (by simp) ?_; intro v8 w8 ho8 hk8))
      have HW8 := Lib.hid (rwith_any w8 _ EX ((HO6.out.keep0 hk8).bytes) (by have := HEL.out; omega))
      refine HW8.out.mono ?_
      rintro en w9 ⟨v9, rfl, ho9, k9⟩
      have HO9 := Lib.hid ho9
      have HA9 := Lib.hid (ho8.keep0 k9)
      have HK9 := Lib.hid (hk8.trans k9)
      clear ho9 k9 HW8 ho8 hk8
      go_wp2_with (at_builtin; first | (refine app_W rfl _ _ w6 (HK9.out) rfl _ ([3, 3] ++ List.replicate 33 0 ++ [0, 2, 0, 47, 1, 0]) rfl (HA9.out) _ (withL EX) rfl (HO9.out.bytes) (by simp only [List.length_append, withL_len, List.length_cons, List.length_nil, List.length_replicate]; have := HEL.out; omega) ?_; intro v10 w10 ho10 hk10; rw [HBB.out] at ho10; obtain ⟨A10, c10, e10⟩ := ho10.form; rw [HN.out] at e10; subst e10))
      refine calls_gn fun w11 hw11 => ?_
      have HK11 := Lib.hid (show Keeps [] w10 w11 by rw [hw11]; exact Keeps.alloc [] w10 _)
      have HLA := Lib.hid (lay3_any w11 _ (show BytesV w11 (.slice (some ⟨w10.heap.size, 0, none⟩) 1 1) [1] by rw [hw11]; exact (OwnB.new w10 #[.int .u8 1] [1] rfl (by simp)).bytes) N hNb)
      have HO10 := Lib.hid ho10
      have HK10 := Lib.hid (HK6.out.trans hk10)
      clear hw11 ho10 hk10
      refine HLA.out.mono ?_
      rintro en w12 ⟨v12, rfl, ho12, k12⟩
      have HO12 := Lib.hid ho12
      have HK12 := Lib.hid k12
      clear ho12 k12 HLA
      go_wp2_with (at_builtin; first | (refine app_W rfl _ _ w11 (HK12.out) rfl _ ([1, UInt8.ofNat (N / 65536), UInt8.ofNat (N / 256), UInt8.ofNat N]) rfl (HO12.out) _ (BB) rfl (((HO10.out.keep0 HK11.out).keep0 HK12.out).bytes) (by have := HN.out; simp; omega) ?_; intro v13 w13 ho13 hk13))
      go_ret
      have hk : Keeps [] w w13 := HK10.out.trans (HK11.out.trans hk13)
      have e : allB name.data.toList before behind = [1, UInt8.ofNat (N / 65536), UInt8.ofNat (N / 256), UInt8.ofNat N] ++ BB := by
        have e2 : allB name.data.toList before behind = [1, 0] ++ u16L BB.length ++ BB := by
          rw [← HBB.out, ← HEX.out]
          unfold allB bodyB extB; rw [if_neg HNE.out.1]; simp only [List.append_assoc]
        rw [e2, HN.out]
        have h0 : UInt8.ofNat (N / 65536) = 0 := by rw [Nat.div_eq_of_lt (by omega)]; rfl
        rw [h0]
        rfl
      rw [← HRES.out, e]
      exact ⟨_, rfl, ho13.weak (Nat.le_trans HK10.out.size HK11.out.size), hk⟩
end Go.Proofs.YthcpeceamiibaaaDoor
