/-
  The walk of the law PolicyOrder. Condition: the library's tables lie as the row lists them; the arguments are in the ranges of their kinds.
-/
import Derived.Test.YtbmkdnkiojapbaaDoorPolC
import Derived.Test.YtbmkdnkiojapbaaDoorPolD
import Derived.Test.YtbmkdnkiojapbaaDoorPolE
import Derived.Test.YtbmkdnkiojapbaaDoorPolicySuffix
namespace Go.Proofs.YtbmkdnkiojapbaaDoor
open Go.RowKit Go.ChangeShapes Go.WideShapes Go.ChangeAt Go.Joins Go.Lib
set_option linter.unusedVariables false
set_option linter.unusedSimpArgs false

theorem lt_max3 {a b c : Nat} (h : a < b + 3) : (a : Int) < max (c : Int) ((b : Int) + 3) := by omega
set_option maxRecDepth 100000 in
set_option maxHeartbeats 8000000 in
theorem po_bad (w : World) (hw : LW w) (c : PC) (r : PCR) (A : Option Addr) (n k : Nat) (l : List PR) (hn : l.length = n) (hl : RulesAt w A l) (hnk : n ≤ k) (at_ : Int) (name : ByteArray) (hz : mayL c (l.take 60) = false) :
    Calls Tryd.prog 6 #[cfgV c r, .slice A n k, .int .u8 at_, .string name] w fun e w' => e = .returned (.bool true) ∧ Keeps [] w w' := by
  obtain ⟨CS, hCS⟩ : ∃ CS : List Value, CS = [.int .u32 c.inside, .int .u32 c.mask, .int .u32 c.outer, .int .u16 r.lo, .int .u16 r.hi, .int .u64 r.qu, .int .i64 r.fl, .slice r.wa r.wn r.wc, .int .i64 r.sn, .int .u16 r.ms, .int .i64 r.sc, .bool r.sk, .int .u64 r.ky, .slice r.ra r.rn r.rc, .slice r.fa r.fn r.fc, .int .u64 r.rt, .int .i64 r.tr, .int .u64 r.dl, .int .u64 r.wt] := ⟨_, rfl⟩
  have hcv : cfgV c r = .agg CS.toArray := by rw [hCS]; rfl
  obtain ⟨m, hm⟩ : ∃ m, (l.take 60).length = m := ⟨_, rfl⟩
  have hm1 : min (n : Int) 60 = m := by rw [← hm, ← hn]; simp; omega
  have hm2 : (m : Int) ≤ k := by omega
  have hm3 : (0 : Int) ≤ m := by omega
  have hcl : CS.length = 19 := by rw [hCS]; rfl
  have HCL := Lib.hid hcl
  have k1 : Keeps [] w (w.alloc (.cells CS.toArray 29)) := Keeps.alloc [] w _
  have HRB := Lib.hid (range_box w CS 29)
  have K1 := Lib.hid k1
  rw [hcv]
  have HWK := Lib.hid (fun (W : World) (kz : Keeps [] w W) => wakes_any W (hw.keep0 kz))
  have HNEW0 := Lib.hid (fun (W : World) (kz : Keeps [] w W) => new_bad W (hw.keep0 kz) c r A m k (l.take 60) hm ((hl.take 60).keep0 kz) (by omega) hz)
  rw [hcv] at HNEW0
  clear hw hl hn hm hcv hCS hcl hz k1
  go_enter Tryd.func6, Tryd.ntmps6
  go_wp2_with (refine wpList_load_want 29 (.tmp 4) rfl (by simp [Region.wanted, yielded]) w.heap.size 0 rfl _ _ HRB.out Tryd.underlying29 rfl (by rw [HCL.out]; kernel_rfl) ?_)
  refine (HNEW0.out _ K1.out).mono ?_
  rintro e w2 ⟨rfl, k2⟩
  have K2 := Lib.hid (K1.out.trans k2)
  clear k2
  go_wp2_with fail
  refine (HWK.out _ K2.out).mono ?_
  rintro e w3 ⟨rfl, k3⟩
  have K3 := Lib.hid (K2.out.trans k3)
  clear k3
  go_wp2_with fail
  go_ret
  exact ⟨rfl, K3.out⟩
set_option maxRecDepth 100000 in
set_option maxHeartbeats 8000000 in
theorem po_none (w : World) (hw : LW w) (c : PC) (r : PCR) (A : Option Addr) (n k : Nat) (l : List PR) (hn : l.length = n) (hl : RulesAt w A l) (hnk : n ≤ k) (at_ : Int) (name : ByteArray) (hz : mayL c (l.take 60) = true) (h0 : (l.take 60).length = 0) :
    Calls Tryd.prog 6 #[cfgV c r, .slice A n k, .int .u8 at_, .string name] w fun e w' => e = .returned (.bool true) ∧ Keeps [] w w' := by
  obtain ⟨CS, hCS⟩ : ∃ CS : List Value, CS = [.int .u32 c.inside, .int .u32 c.mask, .int .u32 c.outer, .int .u16 r.lo, .int .u16 r.hi, .int .u64 r.qu, .int .i64 r.fl, .slice r.wa r.wn r.wc, .int .i64 r.sn, .int .u16 r.ms, .int .i64 r.sc, .bool r.sk, .int .u64 r.ky, .slice r.ra r.rn r.rc, .slice r.fa r.fn r.fc, .int .u64 r.rt, .int .i64 r.tr, .int .u64 r.dl, .int .u64 r.wt] := ⟨_, rfl⟩
  have hcv : cfgV c r = .agg CS.toArray := by rw [hCS]; rfl
  obtain ⟨m, hm⟩ : ∃ m, (l.take 60).length = m := ⟨_, rfl⟩
  have hm1 : min (n : Int) 60 = m := by rw [← hm, ← hn]; simp; omega
  have hm2 : (m : Int) ≤ k := by omega
  have hm3 : (0 : Int) ≤ m := by omega
  have hcl : CS.length = 19 := by rw [hCS]; rfl
  have HCL := Lib.hid hcl
  have k1 : Keeps [] w (w.alloc (.cells CS.toArray 29)) := Keeps.alloc [] w _
  have HRB := Lib.hid (range_box w CS 29)
  have K1 := Lib.hid k1
  rw [hcv]
  have HWK := Lib.hid (fun (W : World) (kz : Keeps [] w W) => wakes_any W (hw.keep0 kz))
  have hm0 : m = 0 := by rw [← hm]; exact h0
  have HNEW1 := Lib.hid (fun (W : World) (kz : Keeps [] w W) => new_ok W (hw.keep0 kz) c r A m k (l.take 60) hm ((hl.take 60).keep0 kz) (by omega) hz)
  rw [hcv] at HNEW1
  clear hw hl hn hm hcv hCS hcl hz k1 h0
  subst hm0
  go_enter Tryd.func6, Tryd.ntmps6
  go_wp2_with (refine wpList_load_want 29 (.tmp 4) rfl (by simp [Region.wanted, yielded]) w.heap.size 0 rfl _ _ HRB.out Tryd.underlying29 rfl (by rw [HCL.out]; kernel_rfl) ?_)
  refine (HNEW1.out _ K1.out).mono ?_
  rintro e w2 ⟨tb, mb, rfl, ht2, k2, hs1, hs2⟩
  have K2 := Lib.hid (K1.out.trans k2)
  clear k2 ht2 hs1 hs2
  go_wp2_with fail
  refine (HWK.out _ K2.out).mono ?_
  rintro e w3 ⟨rfl, k3⟩
  have K3 := Lib.hid (K2.out.trans k3)
  clear k3
  go_wp2_with fail
  go_ret
  exact ⟨rfl, K3.out⟩
set_option maxRecDepth 100000 in
set_option maxHeartbeats 16000000 in
theorem po_main (w : World) (hw : LW w) (c : PC) (r : PCR) (b o n k : Nat) (l : List PR) (hn : l.length = n) (hl : RulesAt w (some ⟨b, o, none⟩) l) (hnk : n ≤ k) (at_ : Int) (name : ByteArray) (hz : mayL c (l.take 60) = true) (h0 : ¬ (l.take 60).length = 0) (kk : Nat) (hkk : at_ % ((l.take 60).length : Int) = kk) (hat : 0 ≤ at_ ∧ at_ ≤ 255) :
    Calls Tryd.prog 6 #[cfgV c r, .slice (some ⟨b, o, none⟩) n k, .int .u8 at_, .string name] w fun e w' => e = .returned (.bool true) ∧ Keeps [] w w' := by
  obtain ⟨CS, hCS⟩ : ∃ CS : List Value, CS = [.int .u32 c.inside, .int .u32 c.mask, .int .u32 c.outer, .int .u16 r.lo, .int .u16 r.hi, .int .u64 r.qu, .int .i64 r.fl, .slice r.wa r.wn r.wc, .int .i64 r.sn, .int .u16 r.ms, .int .i64 r.sc, .bool r.sk, .int .u64 r.ky, .slice r.ra r.rn r.rc, .slice r.fa r.fn r.fc, .int .u64 r.rt, .int .i64 r.tr, .int .u64 r.dl, .int .u64 r.wt] := ⟨_, rfl⟩
  have hcv : cfgV c r = .agg CS.toArray := by rw [hCS]; rfl
  obtain ⟨m, hm⟩ : ∃ m, (l.take 60).length = m := ⟨_, rfl⟩
  have hm1 : min (n : Int) 60 = m := by rw [← hm, ← hn]; simp; omega
  have hm2 : (m : Int) ≤ k := by omega
  have hm3 : (0 : Int) ≤ m := by omega
  have hcl : CS.length = 19 := by rw [hCS]; rfl
  have HCL := Lib.hid hcl
  have k1 : Keeps [] w (w.alloc (.cells CS.toArray 29)) := Keeps.alloc [] w _
  have HRB := Lib.hid (fun (W : World) (kz : Keeps [] (w.alloc (.cells CS.toArray 29)) W) => rangeAt_keeps kz (range_box w CS 29) (by simp))
  have K1 := Lib.hid k1
  rw [hcv]
  have HWK := Lib.hid (fun (W : World) (kz : Keeps [] w W) => wakes_any W (hw.keep0 kz))
  obtain ⟨L, hL⟩ : ∃ L, l.take 60 = L := ⟨_, rfl⟩
  have hlL : RulesAt w (some ⟨b, o, none⟩) L := by rw [← hL]; exact hl.take 60
  rw [hL] at hz hm h0 hkk
  rw [hm] at h0 hkk
  have hm60 : m ≤ 60 := by omega
  have hkm : kk < m := by have := Int.emod_lt_of_pos at_ (show (0 : Int) < m by omega); omega
  have hk1 : (kk : Int) < m := by omega
  have hk2 : (0 : Int) ≤ kk := by omega
  have hk3 : (kk : Int) ≤ k := by omega
  have hk4 : ¬ k = kk := by omega
  have hk5 : (kk : Int) ≤ m := by omega
  have hmz : ¬ (m : Int) = 0 := by omega
  obtain ⟨ha1, ha2⟩ := hat
  have HNEW := Lib.hid (fun (W : World) (kz : Keeps [] w W) (B : Option Addr) (i j : Nat) (ll : List PR) => new_ok W (hw.keep0 kz) c r B i j ll)
  have HMAY := Lib.hid (fun (W : World) (kz : Keeps [] w W) (B : Option Addr) (i j : Nat) (ll : List PR) => may_any W (hw.keep0 kz) c r B i j ll)
  rw [hcv] at HNEW HMAY
  have HLW := Lib.hid (fun (W : World) (kz : Keeps [] w W) => hw.keep0 kz)
  have HL := Lib.hid (fun (W : World) (kz : Keeps [] w W) => hlL.keep0 kz)
  have HM := Lib.hid hm
  have HZ := Lib.hid hz
  have HKM := Lib.hid (And.intro hkm hm60)
  clear hw hl hn hm hcv hCS hcl hz k1 hlL hL hm60 hkm
  go_enter Tryd.func6, Tryd.ntmps6
  go_wp2_with (refine wpList_load_want 29 (.tmp 4) rfl (by simp [Region.wanted, yielded]) w.heap.size 0 rfl _ _ (HRB.out _ (Keeps.refl _ _)) Tryd.underlying29 rfl (by rw [HCL.out]; kernel_rfl) ?_)
  refine (HNEW.out _ K1.out (some ⟨b, o, none⟩) m k L HM.out (HL.out _ K1.out) (by have := HKM.out; omega) HZ.out).mono ?_
  rintro e w2 ⟨tb, mb, rfl, ht2, k2, hs1, hs2⟩
  have K2 := Lib.hid (K1.out.trans k2)
  have K2B := Lib.hid k2
  have HT2 := Lib.hid ht2
  clear k2 ht2 hs1 hs2
  go_wp2_with fail
  rw [hkk]
  refine wp_region_held_drew (S := fun W => Keeps [] w2 W) (by kernel_rfl) ?hS6 (fun hHeld => ?_)
  case hS6 => exact (Keeps.refl [] _).drew'
  refine wpAnyH_take (i := 0) (oi := _) (v := .agg CS.toArray) rfl (by kernel_rfl) (by kernel_rfl) (by kernel_rfl) (fun _ _ _ h => h)
    (yieldsIf_load_mid (by rfl) 29 (.tmp 4) rfl w.heap.size 0 rfl CS _ (fun W h => HRB.out _ (K2B.out.trans h)) Tryd.underlying29 rfl (by rw [HCL.out]; kernel_rfl)) (by assumption) ?_
  try simp only [List.getElem_toArray, List.getElem_cons_zero, List.getElem_cons_succ, Act.put, List.setIfInBounds_toArray, List.set_cons_zero, List.set_cons_succ]
  refine wpAnyH_take (i := 1) (oi := _) (v := ?va1) rfl (by kernel_rfl) (by kernel_rfl) (by kernel_rfl) (fun _ _ _ h => h) (Or.inl ⟨by rfl, ?hya1⟩) (by assumption) ?resta1
  case hya1 => (intro w hSw; (try dsimp only at hSw); go_simp; try (with_reducible rfl))
  try simp only [List.getElem_toArray, List.getElem_cons_zero, List.getElem_cons_succ, Act.put, List.setIfInBounds_toArray, List.set_cons_zero, List.set_cons_succ]
  refine wpAnyH_take (i := 2) (oi := _) (v := ?va2) rfl (by kernel_rfl) (by kernel_rfl) (by kernel_rfl) (fun _ _ _ h => h) (Or.inl ⟨by rfl, ?hya2⟩) (by assumption) ?resta2
  case hya2 => (intro w hSw; (try dsimp only at hSw); go_simp; try (with_reducible rfl))
  try simp only [List.getElem_toArray, List.getElem_cons_zero, List.getElem_cons_succ, Act.put, List.setIfInBounds_toArray, List.set_cons_zero, List.set_cons_succ]
  refine wpAnyH_take (i := 3) (oi := _) (v := ?va3) rfl (by kernel_rfl) (by kernel_rfl) (by kernel_rfl) (fun _ _ _ h => h) (Or.inl ⟨by rfl, ?hya3⟩) (by assumption) ?resta3
  case hya3 => (intro w hSw; (try dsimp only at hSw); go_simp; try (with_reducible rfl))
  try simp only [List.getElem_toArray, List.getElem_cons_zero, List.getElem_cons_succ, Act.put, List.setIfInBounds_toArray, List.set_cons_zero, List.set_cons_succ]
  refine wpAnyH_take (i := 5) (oi := _) (v := ?va5) rfl (by kernel_rfl) (by kernel_rfl) (by kernel_rfl) (fun _ _ _ h => h) (Or.inl ⟨by rfl, ?hya5⟩) (by assumption) ?resta5
  case hya5 => (intro w hSw; (try dsimp only at hSw); go_simp; try (with_reducible rfl))
  try simp only [List.getElem_toArray, List.getElem_cons_zero, List.getElem_cons_succ, Act.put, List.setIfInBounds_toArray, List.set_cons_zero, List.set_cons_succ]
  refine wpAnyH_take (i := 6) (oi := _) (v := ?va6) rfl (by kernel_rfl) (by kernel_rfl) (by kernel_rfl) (fun _ _ _ h => h) (Or.inl ⟨by rfl, ?hya6⟩) (by assumption) ?resta6
  case hya6 => (intro w hSw; (try dsimp only at hSw); go_simp; try (with_reducible rfl))
  try simp only [List.getElem_toArray, List.getElem_cons_zero, List.getElem_cons_succ, Act.put, List.setIfInBounds_toArray, List.set_cons_zero, List.set_cons_succ]
  refine wpAnyH_take (i := 7) (oi := _) (v := ?va7) rfl (by kernel_rfl) (by kernel_rfl) (by kernel_rfl) (fun _ _ _ h => h) (Or.inl ⟨by rfl, ?hya7⟩) (by assumption) ?resta7
  case hya7 => (intro w hSw; (try dsimp only at hSw); go_simp; try (with_reducible rfl))
  try simp only [List.getElem_toArray, List.getElem_cons_zero, List.getElem_cons_succ, Act.put, List.setIfInBounds_toArray, List.set_cons_zero, List.set_cons_succ]
  refine wpAnyH_ready (rs := [4]) (by kernel_rfl) (by simp) ?_
  refine AllReadyH.cons (o := _) rfl (fun K hK => ?_) AllReadyH.nil
  simp only [List.getElem_toArray, List.getElem_cons_zero, List.getElem_cons_succ]
  rw [if_pos (by simp [Region.wanted])]
  have hdl : (L.drop kk).length = m - kk := by rw [List.length_drop, HM.out]
  have htl : (L.take kk).length = kk := by rw [List.length_take, HM.out]; have := HKM.out; omega
  refine step_append_R (w0 := w2) (.const (.slice none 0 0)) (.tmp 50) 26 rfl Tryd.underlying26 (.slice none 0 0) [] (by rfl) (OwnR.nil _ _) (some ⟨b, o + kk * 4, none⟩) (m - kk) (k - kk) (L.drop kk) (by rfl) hdl ((HL.out _ K2.out.drew').drop kk) (by simp; have := HKM.out; omega) ((Keeps.refl [] _).drew') ?_
  intro v1 w3 own1 _ k3
  rw [List.nil_append] at own1
  obtain ⟨A1, c1, rfl, hr1, hc1, hmx⟩ := own1.rules
  rw [hdl] at hc1 own1 ⊢
  refine hK.out _ _ k3 (fun hHeld2 => ?_)
  clear hK K
  try simp only [List.getElem_toArray, List.getElem_cons_zero, List.getElem_cons_succ, Act.put, List.setIfInBounds_toArray, List.set_cons_zero, List.set_cons_succ]
  refine wpAnyH_ready (rs := [8]) (by kernel_rfl) (by simp) ?_
  refine AllReadyH.cons (o := _) rfl (fun K hK => ?_) AllReadyH.nil
  simp only [List.getElem_toArray, List.getElem_cons_zero, List.getElem_cons_succ]
  rw [if_pos (by simp [Region.wanted])]
  refine step_append_R (w0 := w2) (.tmp 51) (.tmp 54) 26 rfl Tryd.underlying26 _ (L.drop kk) (by rfl) own1 (some ⟨b, o, none⟩) kk k (L.take kk) (by rfl) htl ((HL.out _ (K2.out.trans k3)).take kk) (by rw [hdl]; have := HKM.out; omega) k3 ?_
  intro v2 w4 own2 _ k4
  obtain ⟨A2, c2, rfl, hr2, hc2, hmy⟩ := own2.rules
  have hl2 : (L.drop kk ++ L.take kk).length = m := by rw [(turn_perm L kk).length_eq, HM.out]
  rw [hl2] at hc2 own2 ⊢
  refine hK.out _ _ k4 (fun hHeld3 => ?_)
  clear hK K
  try simp only [List.getElem_toArray, List.getElem_cons_zero, List.getElem_cons_succ, Act.put, List.setIfInBounds_toArray, List.set_cons_zero, List.set_cons_succ]
  refine wpAnyH_ready (rs := [9]) (by kernel_rfl) (by simp) ?_
  refine AllReadyH.cons (o := _) rfl (fun K hK => ?_) AllReadyH.nil
  simp only [List.getElem_toArray, List.getElem_cons_zero, List.getElem_cons_succ]
  go_simp
  refine (HNEW.out _ (K2.out.trans k4) A2 m c2 (L.drop kk ++ L.take kk) hl2 hr2 (by have := HKM.out; omega) (mayL_perm (turn_perm L kk) HZ.out)).mono ?_
  rintro e w5 ⟨ub, vb, rfl, hu5, k5, hs1, hs2⟩
  refine hK.out _ _ (k4.trans k5) (fun hHeld4 => ?_)
  have K5 := Lib.hid (K2.out.trans (k4.trans k5))
  have K5B := Lib.hid (K2B.out.trans (k4.trans k5))
  have HT5 := Lib.hid (HT2.out.keep0 (k4.trans k5))
  have HU5 := Lib.hid hu5
  clear hK K hr1 hr2 own1 own2 k3 k4 k5 hs1 hs2 hu5
  try simp only [List.getElem_toArray, List.getElem_cons_zero, List.getElem_cons_succ, Act.put, List.setIfInBounds_toArray, List.set_cons_zero, List.set_cons_succ]
  refine wpAnyH_take (i := 10) (oi := _) (v := ?va10) rfl (by kernel_rfl) (by kernel_rfl) (by kernel_rfl) (fun _ _ _ h => h) (Or.inl ⟨by rfl, ?hya10⟩) (by assumption) ?resta10
  case hya10 => (intro w hSw; (try dsimp only at hSw); go_simp; try (with_reducible rfl))
  try simp only [List.getElem_toArray, List.getElem_cons_zero, List.getElem_cons_succ, Act.put, List.setIfInBounds_toArray, List.set_cons_zero, List.set_cons_succ]
  refine wpAnyH_take (i := 11) (oi := _) (v := ?va11) rfl (by kernel_rfl) (by kernel_rfl) (by kernel_rfl) (fun _ _ _ h => h) (Or.inl ⟨by rfl, ?hya11⟩) (by assumption) ?resta11
  case hya11 => (intro w hSw; (try dsimp only at hSw); go_simp; try (with_reducible rfl))
  try simp only [List.getElem_toArray, List.getElem_cons_zero, List.getElem_cons_succ, Act.put, List.setIfInBounds_toArray, List.set_cons_zero, List.set_cons_succ]
  refine wpAnyH_take (i := 12) (oi := _) (v := ?va12) rfl (by kernel_rfl) (by kernel_rfl) (by kernel_rfl) (fun _ _ _ h => h) (Or.inl ⟨by rfl, ?hya12⟩) (by assumption) ?resta12
  case hya12 => (intro w hSw; (try dsimp only at hSw); go_simp; try (with_reducible rfl))
  try simp only [List.getElem_toArray, List.getElem_cons_zero, List.getElem_cons_succ, Act.put, List.setIfInBounds_toArray, List.set_cons_zero, List.set_cons_succ]
  refine wpAnyH_take (i := 13) (oi := _) (v := ?va13) rfl (by kernel_rfl) (by kernel_rfl) (by kernel_rfl) (fun _ _ _ h => h) (Or.inl ⟨by rfl, ?hya13⟩) (by assumption) ?resta13
  case hya13 => (intro w hSw; (try dsimp only at hSw); go_simp; try (with_reducible rfl))
  try simp only [List.getElem_toArray, List.getElem_cons_zero, List.getElem_cons_succ, Act.put, List.setIfInBounds_toArray, List.set_cons_zero, List.set_cons_succ]
  refine wpAnyH_take (i := 14) (oi := _) (v := ?va14) rfl (by kernel_rfl) (by kernel_rfl) (by kernel_rfl) (fun _ _ _ h => h) (Or.inl ⟨by rfl, ?hya14⟩) (by assumption) ?resta14
  case hya14 => (intro w hSw; (try dsimp only at hSw); go_simp; try (with_reducible rfl))
  try simp only [List.getElem_toArray, List.getElem_cons_zero, List.getElem_cons_succ, Act.put, List.setIfInBounds_toArray, List.set_cons_zero, List.set_cons_succ]
  refine wpAnyH_done (by kernel_rfl) ?_ _
  clear hHeld hHeld2 hHeld3 hHeld4 HT2 K2 K2B
  go_wp2_with fail
  have hw7 : IntKind.i64.wrap ((kk : Int) + 1) = (kk : Int) + 1 := by have := HKM.out; simp [IntKind.wrap, IntKind.bits, IntKind.signed]; omega
  have hk6 : (kk : Int) + 1 ≤ m := by have := HKM.out; omega
  have hk7 : (0 : Int) ≤ (kk : Int) + 1 := by omega
  refine wp_region_held_drew (S := fun W => Keeps [] w5 W) (by kernel_rfl) ?hS7 (fun hHeld => ?_)
  case hS7 => exact (Keeps.refl [] _).drew'
  refine wpAnyH_take (i := 0) (oi := _) (v := .agg CS.toArray) rfl (by kernel_rfl) (by kernel_rfl) (by kernel_rfl) (fun _ _ _ h => h)
    (yieldsIf_load_mid (by rfl) 29 (.tmp 4) rfl w.heap.size 0 rfl CS _ (fun W h => HRB.out _ (K5B.out.trans h)) Tryd.underlying29 rfl (by rw [HCL.out]; kernel_rfl)) (by assumption) ?_
  try simp only [List.getElem_toArray, List.getElem_cons_zero, List.getElem_cons_succ, Act.put, List.setIfInBounds_toArray, List.set_cons_zero, List.set_cons_succ]
  refine wpAnyH_take (i := 1) (oi := _) (v := ?vb1) rfl (by kernel_rfl) (by kernel_rfl) (by kernel_rfl) (fun _ _ _ h => h) (Or.inl ⟨by rfl, ?hyb1⟩) (by assumption) ?restb1
  case hyb1 => (intro w hSw; (try dsimp only at hSw); go_simp; try (with_reducible rfl))
  try simp only [List.getElem_toArray, List.getElem_cons_zero, List.getElem_cons_succ, Act.put, List.setIfInBounds_toArray, List.set_cons_zero, List.set_cons_succ]
  refine wpAnyH_take (i := 2) (oi := _) (v := ?vb2) rfl (by kernel_rfl) (by kernel_rfl) (by kernel_rfl) (fun _ _ _ h => h) (Or.inl ⟨by rfl, ?hyb2⟩) (by assumption) ?restb2
  case hyb2 => (intro w hSw; (try dsimp only at hSw); go_simp; try (with_reducible rfl))
  try simp only [List.getElem_toArray, List.getElem_cons_zero, List.getElem_cons_succ, Act.put, List.setIfInBounds_toArray, List.set_cons_zero, List.set_cons_succ]
  refine wpAnyH_take (i := 3) (oi := _) (v := ?vb3) rfl (by kernel_rfl) (by kernel_rfl) (by kernel_rfl) (fun _ _ _ h => h) (Or.inl ⟨by rfl, ?hyb3⟩) (by assumption) ?restb3
  case hyb3 => (intro w hSw; (try dsimp only at hSw); go_simp; try (with_reducible rfl))
  try simp only [List.getElem_toArray, List.getElem_cons_zero, List.getElem_cons_succ, Act.put, List.setIfInBounds_toArray, List.set_cons_zero, List.set_cons_succ]
  refine wpAnyH_take (i := 5) (oi := _) (v := ?vb5) rfl (by kernel_rfl) (by kernel_rfl) (by kernel_rfl) (fun _ _ _ h => h) (Or.inl ⟨by rfl, ?hyb5⟩) (by assumption) ?restb5
  case hyb5 => (intro w hSw; (try dsimp only at hSw); go_simp; try (with_reducible rfl))
  try simp only [List.getElem_toArray, List.getElem_cons_zero, List.getElem_cons_succ, Act.put, List.setIfInBounds_toArray, List.set_cons_zero, List.set_cons_succ]
  refine wpAnyH_take (i := 6) (oi := _) (v := ?vb6) rfl (by kernel_rfl) (by kernel_rfl) (by kernel_rfl) (fun _ _ _ h => h) (Or.inl ⟨by rfl, ?hyb6⟩) (by assumption) ?restb6
  case hyb6 => (intro w hSw; (try dsimp only at hSw); go_simp; try (with_reducible rfl))
  try simp only [List.getElem_toArray, List.getElem_cons_zero, List.getElem_cons_succ, Act.put, List.setIfInBounds_toArray, List.set_cons_zero, List.set_cons_succ]
  refine wpAnyH_take (i := 7) (oi := _) (v := ?vb7) rfl (by kernel_rfl) (by kernel_rfl) (by kernel_rfl) (fun _ _ _ h => h) (Or.inl ⟨by rfl, ?hyb7⟩) (by assumption) ?restb7
  case hyb7 => (intro w hSw; (try dsimp only at hSw); go_simp; try (with_reducible rfl))
  try simp only [List.getElem_toArray, List.getElem_cons_zero, List.getElem_cons_succ, Act.put, List.setIfInBounds_toArray, List.set_cons_zero, List.set_cons_succ]
  refine wpAnyH_take (i := 8) (oi := _) (v := ?vb8) rfl (by kernel_rfl) (by kernel_rfl) (by kernel_rfl) (fun _ _ _ h => h) (Or.inl ⟨by rfl, ?hyb8⟩) (by assumption) ?restb8
  case hyb8 => (intro w hSw; (try dsimp only at hSw); go_simp; try (with_reducible rfl))
  try simp only [List.getElem_toArray, List.getElem_cons_zero, List.getElem_cons_succ, Act.put, List.setIfInBounds_toArray, List.set_cons_zero, List.set_cons_succ]
  have HX2R := Lib.hid (fun (W : World) (kz : Keeps [] w W) => show RulesAt W (if k = kk + 1 then some ⟨b, o, none⟩ else some ⟨b, o + (kk + 1) * 4, none⟩) (L.drop (kk + 1)) from by
    split
    · refine .inl (List.drop_of_length_le ?_)
      rw [HM.out]
      have := hm2
      omega
    · exact (HL.out _ kz).drop (kk + 1))
  obtain ⟨X2, hX2⟩ : ∃ X2, (if k = kk + 1 then some (⟨b, o, none⟩ : Addr) else some ⟨b, o + (kk + 1) * 4, none⟩) = X2 := ⟨_, rfl⟩
  rw [hX2] at HX2R ⊢
  clear hX2
  refine wpAnyH_ready (rs := [4]) (by kernel_rfl) (by simp) ?_
  refine AllReadyH.cons (o := _) rfl (fun K hK => ?_) AllReadyH.nil
  simp only [List.getElem_toArray, List.getElem_cons_zero, List.getElem_cons_succ]
  rw [if_pos (by simp [Region.wanted])]
  have htl : (L.take kk).length = kk := by rw [List.length_take, HM.out]; have := HKM.out; omega
  have hdl : (L.drop (kk + 1)).length = m - (kk + 1) := by rw [List.length_drop, HM.out]
  refine step_append_R (w0 := w5) (.const (.slice none 0 0)) (.tmp 63) 26 rfl Tryd.underlying26 (.slice none 0 0) [] (by rfl) (OwnR.nil _ _) (some ⟨b, o, none⟩) kk k (L.take kk) (by rfl) htl ((HL.out _ K5.out.drew').take kk) (by simp; have := HKM.out; omega) ((Keeps.refl [] _).drew') ?_
  intro v1 w6 own1 _ k6
  rw [List.nil_append] at own1
  obtain ⟨A1, c1, rfl, hr1, hc1, hmx⟩ := own1.rules
  rw [htl] at hc1 own1 ⊢
  refine hK.out _ _ k6 (fun hHeld2 => ?_)
  clear hK K
  try simp only [List.getElem_toArray, List.getElem_cons_zero, List.getElem_cons_succ, Act.put, List.setIfInBounds_toArray, List.set_cons_zero, List.set_cons_succ]
  refine wpAnyH_ready (rs := [9]) (by kernel_rfl) (by simp) ?_
  refine AllReadyH.cons (o := _) rfl (fun K hK => ?_) AllReadyH.nil
  simp only [List.getElem_toArray, List.getElem_cons_zero, List.getElem_cons_succ]
  rw [if_pos (by simp [Region.wanted])]
  refine step_append_R (w0 := w5) (.tmp 64) (.tmp 68) 26 rfl Tryd.underlying26 _ (L.take kk) (by rfl) own1 X2 (m - (kk + 1)) (k - (kk + 1)) (L.drop (kk + 1)) (by rfl) hdl (HX2R.out _ (K5.out.trans k6)) (by rw [htl]; have := HKM.out; omega) k6 ?_
  intro v2 w7 own2 _ k7
  obtain ⟨A2, c2, rfl, hr2, hc2, hmy⟩ := own2.rules
  have hl2 : (L.take kk ++ L.drop (kk + 1)).length = m - 1 := by rw [List.length_append, htl, hdl]; have := HKM.out; omega
  rw [hl2] at hc2 own2 ⊢
  refine hK.out _ _ k7 (fun hHeld3 => ?_)
  clear hK K
  try simp only [List.getElem_toArray, List.getElem_cons_zero, List.getElem_cons_succ, Act.put, List.setIfInBounds_toArray, List.set_cons_zero, List.set_cons_succ]
  refine wpAnyH_ready (rs := [10]) (by kernel_rfl) (by simp) ?_
  refine AllReadyH.cons (o := _) rfl (fun K hK => ?_) AllReadyH.nil
  simp only [List.getElem_toArray, List.getElem_cons_zero, List.getElem_cons_succ]
  go_simp
  refine (HNEW.out _ (K5.out.trans k7) A2 (m - 1) c2 (L.take kk ++ L.drop (kk + 1)) hl2 hr2 (by have := HKM.out; omega) (mayL_sub (less_sub L kk) HZ.out)).mono ?_
  rintro e w8 ⟨lb, nb, rfl, hl8, k8, hs1, hs2⟩
  refine hK.out _ _ (k7.trans k8) (fun hHeld4 => ?_)
  have K8 := Lib.hid (K5.out.trans (k7.trans k8))
  have K8B := Lib.hid (K5B.out.trans (k7.trans k8))
  have HT8 := Lib.hid (HT5.out.keep0 (k7.trans k8))
  have HU8 := Lib.hid (HU5.out.keep0 (k7.trans k8))
  have HL8 := Lib.hid hl8
  clear hK K hr1 hr2 own1 own2 k6 k7 k8 hs1 hs2 hl8 HX2R
  try simp only [List.getElem_toArray, List.getElem_cons_zero, List.getElem_cons_succ, Act.put, List.setIfInBounds_toArray, List.set_cons_zero, List.set_cons_succ]
  refine wpAnyH_take (i := 11) (oi := _) (v := ?vb11) rfl (by kernel_rfl) (by kernel_rfl) (by kernel_rfl) (fun _ _ _ h => h) (Or.inl ⟨by rfl, ?hyb11⟩) (by assumption) ?restb11
  case hyb11 => (intro w hSw; (try dsimp only at hSw); go_simp; try (with_reducible rfl))
  try simp only [List.getElem_toArray, List.getElem_cons_zero, List.getElem_cons_succ, Act.put, List.setIfInBounds_toArray, List.set_cons_zero, List.set_cons_succ]
  refine wpAnyH_take (i := 12) (oi := _) (v := ?vb12) rfl (by kernel_rfl) (by kernel_rfl) (by kernel_rfl) (fun _ _ _ h => h) (Or.inl ⟨by rfl, ?hyb12⟩) (by assumption) ?restb12
  case hyb12 => (intro w hSw; (try dsimp only at hSw); go_simp; try (with_reducible rfl))
  try simp only [List.getElem_toArray, List.getElem_cons_zero, List.getElem_cons_succ, Act.put, List.setIfInBounds_toArray, List.set_cons_zero, List.set_cons_succ]
  refine wpAnyH_take (i := 13) (oi := _) (v := ?vb13) rfl (by kernel_rfl) (by kernel_rfl) (by kernel_rfl) (fun _ _ _ h => h) (Or.inl ⟨by rfl, ?hyb13⟩) (by assumption) ?restb13
  case hyb13 => (intro w hSw; (try dsimp only at hSw); go_simp; try (with_reducible rfl))
  try simp only [List.getElem_toArray, List.getElem_cons_zero, List.getElem_cons_succ, Act.put, List.setIfInBounds_toArray, List.set_cons_zero, List.set_cons_succ]
  refine wpAnyH_take (i := 14) (oi := _) (v := ?vb14) rfl (by kernel_rfl) (by kernel_rfl) (by kernel_rfl) (fun _ _ _ h => h) (Or.inl ⟨by rfl, ?hyb14⟩) (by assumption) ?restb14
  case hyb14 => (intro w hSw; (try dsimp only at hSw); go_simp; try (with_reducible rfl))
  try simp only [List.getElem_toArray, List.getElem_cons_zero, List.getElem_cons_succ, Act.put, List.setIfInBounds_toArray, List.set_cons_zero, List.set_cons_succ]
  refine wpAnyH_take (i := 15) (oi := _) (v := ?vb15) rfl (by kernel_rfl) (by kernel_rfl) (by kernel_rfl) (fun _ _ _ h => h) (Or.inl ⟨by rfl, ?hyb15⟩) (by assumption) ?restb15
  case hyb15 => (intro w hSw; (try dsimp only at hSw); go_simp; try (with_reducible rfl))
  try simp only [List.getElem_toArray, List.getElem_cons_zero, List.getElem_cons_succ, Act.put, List.setIfInBounds_toArray, List.set_cons_zero, List.set_cons_succ]
  refine wpAnyH_done (by kernel_rfl) ?_ _
  clear hHeld hHeld2 hHeld3 hHeld4 HT5 HU5 K5 K5B
  go_wp2_with fail
  obtain ⟨⟨kn, kd, ka, kp⟩, hk0⟩ : ∃ x, L[kk]? = some x := ⟨_, List.getElem?_eq_getElem (by rw [HM.out]; have := HKM.out; omega)⟩
  have HK0 := Lib.hid hk0
  have HRK := Lib.hid (fun (W : World) (kz : Keeps [] w W) => show W.rangeAt b (o + kk * 4) [.string kn, .bool kd, .int .u32 ka, .int .u16 kp] from by
    have hr := HL.out W kz
    obtain ⟨b', o', e, hc⟩ := hr.resolve_left (by intro h; rw [h] at hk0; simp at hk0)
    injection e with e
    injection e with e1 e2
    subst e1 e2
    obtain ⟨g0, g1, g2, g3⟩ := hc kk _ hk0
    intro j v hj
    have hj4 : j < 4 := by have := (List.getElem?_eq_some_iff.1 hj).1; simpa using this
    obtain h | h | h | h : j = 0 ∨ j = 1 ∨ j = 2 ∨ j = 3 := by omega
    all_goals
      subst h
      simp at hj
      subst hj
      assumption)
  clear hk0
  refine wp_rel (R := fun a a' w' => ∃ A1 c1 bb B c6, a' = ((((((((((((((((((a.put (some 73) (.int .i64 0)).put (some 74) (.bool false)).put (some 75) (.bool false)).put (some 76) (.int .i64 0)).put (some 77) (.bool false)).put (some 78) (.bool false)).put (some 79) (.bool false)).put (some 80) (.agg CS.toArray)).put (some 81) (.slice (some ⟨b, o, none⟩) m k)).put (some 82) (.slice A1 m c1)).put (some 83) (.slice (some ⟨b, o, none⟩) m k)).put (some 84) (.int .i64 kk)).put (some 85) (.pointer (some ⟨b, o + kk * 4, none⟩))).put (some 86) (.agg [.string kn, .bool kd, .int .u32 ka, .int .u16 kp].toArray)).put (some 87) (.slice (some ⟨bb, 0, none⟩) 1 1)).put (some 88) (.slice B (m + 1) c6)).put (some 89) (.bool false)).put (some 90) (.bool false)) ∧ Keeps [] w8 w') ?reg8 ?rest8
  case reg8 =>
    refine wp_region_held_drew (S := fun W => Keeps [] w8 W) (by kernel_rfl) ?hS8 (fun hHeld => ?_)
    case hS8 => exact (Keeps.refl [] _).drew'
    refine wpAnyH_take (i := 0) (oi := _) (v := ?vc0) rfl (by kernel_rfl) (by kernel_rfl) (by kernel_rfl) (fun _ _ _ h => absurd h.1 (by simp)) (Or.inl ⟨by rfl, ?hyc0⟩) (by assumption) ?restc0
    case hyc0 => (intro w hSw; (try dsimp only at hSw); go_simp; try (with_reducible rfl))
    try simp only [List.getElem_toArray, List.getElem_cons_zero, List.getElem_cons_succ, Act.put, List.setIfInBounds_toArray, List.set_cons_zero, List.set_cons_succ]
    refine wpAnyH_take (i := 1) (oi := _) (v := ?vc1) rfl (by kernel_rfl) (by kernel_rfl) (by kernel_rfl) (fun _ _ _ h => absurd h.1 (by simp)) (Or.inl ⟨by rfl, ?hyc1⟩) (by assumption) ?restc1
    case hyc1 => (intro w hSw; (try dsimp only at hSw); go_simp; try (with_reducible rfl))
    try simp only [List.getElem_toArray, List.getElem_cons_zero, List.getElem_cons_succ, Act.put, List.setIfInBounds_toArray, List.set_cons_zero, List.set_cons_succ]
    refine wpAnyH_take (i := 2) (oi := _) (v := ?vc2) rfl (by kernel_rfl) (by kernel_rfl) (by kernel_rfl) (fun _ _ _ h => absurd h.1 (by simp)) (Or.inl ⟨by rfl, ?hyc2⟩) (by assumption) ?restc2
    case hyc2 => (intro w hSw; (try dsimp only at hSw); go_simp; try (with_reducible rfl))
    try simp only [List.getElem_toArray, List.getElem_cons_zero, List.getElem_cons_succ, Act.put, List.setIfInBounds_toArray, List.set_cons_zero, List.set_cons_succ]
    refine wpAnyH_take (i := 3) (oi := _) (v := ?vc3) rfl (by kernel_rfl) (by kernel_rfl) (by kernel_rfl) (fun _ _ _ h => absurd h.1 (by simp)) (Or.inl ⟨by rfl, ?hyc3⟩) (by assumption) ?restc3
    case hyc3 => (intro w hSw; (try dsimp only at hSw); go_simp; try (with_reducible rfl))
    try simp only [List.getElem_toArray, List.getElem_cons_zero, List.getElem_cons_succ, Act.put, List.setIfInBounds_toArray, List.set_cons_zero, List.set_cons_succ]
    refine wpAnyH_take (i := 4) (oi := _) (v := ?vc4) rfl (by kernel_rfl) (by kernel_rfl) (by kernel_rfl) (fun _ _ _ h => absurd h.1 (by simp)) (Or.inl ⟨by rfl, ?hyc4⟩) (by assumption) ?restc4
    case hyc4 => (intro w hSw; (try dsimp only at hSw); go_simp; try (with_reducible rfl))
    try simp only [List.getElem_toArray, List.getElem_cons_zero, List.getElem_cons_succ, Act.put, List.setIfInBounds_toArray, List.set_cons_zero, List.set_cons_succ]
    refine wpAnyH_take (i := 5) (oi := _) (v := ?vc5) rfl (by kernel_rfl) (by kernel_rfl) (by kernel_rfl) (fun _ _ _ h => absurd h.1 (by simp)) (Or.inl ⟨by rfl, ?hyc5⟩) (by assumption) ?restc5
    case hyc5 => (intro w hSw; (try dsimp only at hSw); go_simp; try (with_reducible rfl))
    try simp only [List.getElem_toArray, List.getElem_cons_zero, List.getElem_cons_succ, Act.put, List.setIfInBounds_toArray, List.set_cons_zero, List.set_cons_succ]
    refine wpAnyH_take (i := 6) (oi := _) (v := ?vc6) rfl (by kernel_rfl) (by kernel_rfl) (by kernel_rfl) (fun _ _ _ h => absurd h.1 (by simp)) (Or.inl ⟨by rfl, ?hyc6⟩) (by assumption) ?restc6
    case hyc6 => (intro w hSw; (try dsimp only at hSw); go_simp; try (with_reducible rfl))
    try simp only [List.getElem_toArray, List.getElem_cons_zero, List.getElem_cons_succ, Act.put, List.setIfInBounds_toArray, List.set_cons_zero, List.set_cons_succ]
    refine wpAnyH_take (i := 7) (oi := _) (v := .agg CS.toArray) rfl (by kernel_rfl) (by kernel_rfl) (by kernel_rfl) (fun _ _ _ h => absurd h.1 (by simp))
      (yieldsIf_load_mid (by rfl) 29 (.tmp 4) rfl w.heap.size 0 rfl CS _ (fun W h => HRB.out _ (K8B.out.trans h)) Tryd.underlying29 rfl (by rw [HCL.out]; kernel_rfl)) (by assumption) ?_
    try simp only [List.getElem_toArray, List.getElem_cons_zero, List.getElem_cons_succ, Act.put, List.setIfInBounds_toArray, List.set_cons_zero, List.set_cons_succ]
    refine wpAnyH_take (i := 8) (oi := _) (v := ?vc8) rfl (by kernel_rfl) (by kernel_rfl) (by kernel_rfl) (fun _ _ _ h => absurd h.1 (by simp)) (Or.inl ⟨by rfl, ?hyc8⟩) (by assumption) ?restc8
    case hyc8 => (intro w hSw; (try dsimp only at hSw); go_simp; try (with_reducible rfl))
    try simp only [List.getElem_toArray, List.getElem_cons_zero, List.getElem_cons_succ, Act.put, List.setIfInBounds_toArray, List.set_cons_zero, List.set_cons_succ]
    refine wpAnyH_take (i := 10) (oi := _) (v := ?vc10) rfl (by kernel_rfl) (by kernel_rfl) (by kernel_rfl) (fun _ _ _ h => absurd h.1 (by simp)) (Or.inl ⟨by rfl, ?hyc10⟩) (by assumption) ?restc10
    case hyc10 => (intro w hSw; (try dsimp only at hSw); go_simp; try (with_reducible rfl))
    try simp only [List.getElem_toArray, List.getElem_cons_zero, List.getElem_cons_succ, Act.put, List.setIfInBounds_toArray, List.set_cons_zero, List.set_cons_succ]
    refine wpAnyH_take (i := 11) (oi := _) (v := ?vc11) rfl (by kernel_rfl) (by kernel_rfl) (by kernel_rfl) (fun _ _ _ h => absurd h.1 (by simp)) (Or.inl ⟨by rfl, ?hyc11⟩) (by assumption) ?restc11
    case hyc11 => (intro w hSw; (try dsimp only at hSw); go_simp; try (with_reducible rfl))
    try simp only [List.getElem_toArray, List.getElem_cons_zero, List.getElem_cons_succ, Act.put, List.setIfInBounds_toArray, List.set_cons_zero, List.set_cons_succ]
    refine wpAnyH_take (i := 12) (oi := _) (v := ?vc12) rfl (by kernel_rfl) (by kernel_rfl) (by kernel_rfl) (fun _ _ _ h => absurd h.1 (by simp)) (Or.inl ⟨by rfl, ?hyc12⟩) (by assumption) ?restc12
    case hyc12 => (intro w hSw; (try dsimp only at hSw); go_simp; try (with_reducible rfl))
    try simp only [List.getElem_toArray, List.getElem_cons_zero, List.getElem_cons_succ, Act.put, List.setIfInBounds_toArray, List.set_cons_zero, List.set_cons_succ]
    refine wpAnyH_take (i := 13) (oi := _) (v := .agg [.string kn, .bool kd, .int .u32 ka, .int .u16 kp].toArray) rfl (by kernel_rfl) (by kernel_rfl) (by kernel_rfl) (fun _ _ _ h => absurd h.1 (by simp))
      (yieldsIf_load_mid (by rfl) 35 (.tmp 85) rfl b (o + kk * 4) rfl [.string kn, .bool kd, .int .u32 ka, .int .u16 kp] _ (fun W h => HRK.out _ (K8.out.trans h)) Tryd.underlying35 rfl (by kernel_rfl)) (by assumption) ?_
    try simp only [List.getElem_toArray, List.getElem_cons_zero, List.getElem_cons_succ, Act.put, List.setIfInBounds_toArray, List.set_cons_zero, List.set_cons_succ]
    refine wpAnyH_ready (rs := [9, 14]) (by kernel_rfl) (by simp) ?_
    refine AllReadyH.cons (o := _) rfl (fun K hK => ?ord1) (AllReadyH.cons (o := _) rfl (fun K hK => ?ord2) AllReadyH.nil)
    case ord1 =>
      try simp only [List.getElem_toArray, List.getElem_cons_zero, List.getElem_cons_succ, Act.put, List.setIfInBounds_toArray, List.set_cons_zero, List.set_cons_succ]
      rw [if_pos (by rfl)]
      refine step_append_R (w0 := w8) (.const (.slice none 0 0)) (.tmp 81) 26 rfl Tryd.underlying26 (.slice none 0 0) [] (by rfl) (OwnR.nil _ _) (some ⟨b, o, none⟩) m k L (by rfl) HM.out (HL.out _ K8.out.drew') (by simp; have := HKM.out; omega) ((Keeps.refl [] _).drew') ?_
      intro v1 w9 own1 g9 k9
      rw [List.nil_append] at own1
      obtain ⟨A1, c1, rfl, hr1, hc1, hmx⟩ := own1.rules
      rw [HM.out] at hc1 own1 ⊢
      refine hK.out _ _ k9 (fun hHeld2 => ?_)
      clear hK K
      try simp only [List.getElem_toArray, List.getElem_cons_zero, List.getElem_cons_succ, Act.put, List.setIfInBounds_toArray, List.set_cons_zero, List.set_cons_succ]
      refine wpAnyH_ready (rs := [14]) (by kernel_rfl) (by simp) ?_
      refine AllReadyH.cons (o := _) rfl (fun K hK => ?_) AllReadyH.nil
      simp only [List.getElem_toArray, List.getElem_cons_zero, List.getElem_cons_succ]
      go_simp
      refine hK.out _ _ (k9.alloc' _) (fun hHeld3 => ?_)
      clear hK K
      try simp only [List.getElem_toArray, List.getElem_cons_zero, List.getElem_cons_succ, Act.put, List.setIfInBounds_toArray, List.set_cons_zero, List.set_cons_succ]
      refine wpAnyH_ready (rs := [15]) (by kernel_rfl) (by simp) ?_
      refine AllReadyH.cons (o := _) rfl (fun K hK => ?_) AllReadyH.nil
      simp only [List.getElem_toArray, List.getElem_cons_zero, List.getElem_cons_succ]
      rw [if_pos (by rfl)]
      refine step_append_R (w0 := w8) (.tmp 82) (.tmp 87) 26 rfl Tryd.underlying26 _ L (by rfl) (own1.alloc _) _ 1 1 [⟨kn, kd, ka, kp⟩] (by rfl) rfl (rules_one (MapKept.heap_alloc w9 _).1) (by rw [HM.out]; have := HKM.out; omega) (k9.alloc' _) ?_
      intro v2 wa own2 _ ka'
      obtain ⟨B, c6, rfl, hr2, hc2, hmy⟩ := own2.rules
      have hlen : (L ++ [(⟨kn, kd, ka, kp⟩ : PR)]).length = m + 1 := by rw [List.length_append, HM.out]; rfl
      rw [hlen] at hc2 own2 ⊢
      refine hK.out _ _ ka' (fun hHeld4 => ?_)
      clear hK K
      try simp only [List.getElem_toArray, List.getElem_cons_zero, List.getElem_cons_succ, Act.put, List.setIfInBounds_toArray, List.set_cons_zero, List.set_cons_succ]
      refine wpAnyH_ready (rs := [16]) (by kernel_rfl) (by simp) ?_
      refine AllReadyH.cons (o := _) rfl (fun K hK => ?_) AllReadyH.nil
      simp only [List.getElem_toArray, List.getElem_cons_zero, List.getElem_cons_succ]
      go_simp
      have HMX := HMAY.out _ (K8.out.trans ka') B (m + 1) c6 _ hlen hr2 (by have := HKM.out; omega)
      rw [mayL_twice (List.mem_of_getElem? HK0.out)] at HMX
      refine HMX.mono ?_
      clear HMX
      rintro e wb ⟨rfl, kb⟩
      refine hK.out _ _ (ka'.trans kb) (fun hHeld5 => ?_)
      clear hK K
      try simp only [List.getElem_toArray, List.getElem_cons_zero, List.getElem_cons_succ, Act.put, List.setIfInBounds_toArray, List.set_cons_zero, List.set_cons_succ]
      refine wpAnyH_take (i := 17) (oi := _) (v := ?vd17) rfl (by kernel_rfl) (by kernel_rfl) (by kernel_rfl) (fun _ _ _ h => absurd h.1 (by simp)) (Or.inl ⟨by rfl, ?hyd17⟩) (by assumption) ?restd17
      case hyd17 => (intro w hSw; (try dsimp only at hSw); go_simp; try (with_reducible rfl))
      try simp only [List.getElem_toArray, List.getElem_cons_zero, List.getElem_cons_succ, Act.put, List.setIfInBounds_toArray, List.set_cons_zero, List.set_cons_succ]
      refine wpAnyH_done (by kernel_rfl) ?_ _
      refine ⟨rfl, A1, c1, w9.heap.size, B, c6, ?_, ka'.trans kb⟩
      rfl
    case ord2 =>
      try simp only [List.getElem_toArray, List.getElem_cons_zero, List.getElem_cons_succ, Act.put, List.setIfInBounds_toArray, List.set_cons_zero, List.set_cons_succ]
      go_simp
      refine hK.out _ _ (Keeps.alloc [] w8 _).drew' (fun hHeld3 => ?_)
      clear hK K
      try simp only [List.getElem_toArray, List.getElem_cons_zero, List.getElem_cons_succ, Act.put, List.setIfInBounds_toArray, List.set_cons_zero, List.set_cons_succ]
      refine wpAnyH_ready (rs := [9]) (by kernel_rfl) (by simp) ?_
      refine AllReadyH.cons (o := _) rfl (fun K hK => ?_) AllReadyH.nil
      simp only [List.getElem_toArray, List.getElem_cons_zero, List.getElem_cons_succ]
      rw [if_pos (by rfl)]
      refine step_append_R (w0 := w8) (.const (.slice none 0 0)) (.tmp 81) 26 rfl Tryd.underlying26 (.slice none 0 0) [] (by rfl) (OwnR.nil _ _) (some ⟨b, o, none⟩) m k L (by rfl) HM.out (HL.out _ (K8.out.trans (Keeps.alloc [] w8 _).drew')) (by simp; have := HKM.out; omega) (Keeps.alloc [] w8 _).drew' ?_
      intro v1 w9 own1 g9 k9
      rw [List.nil_append] at own1
      obtain ⟨A1, c1, rfl, hr1, hc1, hmx⟩ := own1.rules
      rw [HM.out] at hc1 own1 ⊢
      refine hK.out _ _ k9 (fun hHeld2 => ?_)
      clear hK K
      try simp only [List.getElem_toArray, List.getElem_cons_zero, List.getElem_cons_succ, Act.put, List.setIfInBounds_toArray, List.set_cons_zero, List.set_cons_succ]
      refine wpAnyH_ready (rs := [15]) (by kernel_rfl) (by simp) ?_
      refine AllReadyH.cons (o := _) rfl (fun K hK => ?_) AllReadyH.nil
      simp only [List.getElem_toArray, List.getElem_cons_zero, List.getElem_cons_succ]
      rw [if_pos (by rfl)]
      refine step_append_R (w0 := w8) (.tmp 82) (.tmp 87) 26 rfl Tryd.underlying26 _ L (by rfl) own1 _ 1 1 [⟨kn, kd, ka, kp⟩] (by rfl) rfl (rules_one ((g9.block _ (by simp) (by simp [Value.ownBlock])).trans (MapKept.heap_alloc w8 _).1)) (by rw [HM.out]; have := HKM.out; omega) k9 ?_
      intro v2 wa own2 _ ka'
      obtain ⟨B, c6, rfl, hr2, hc2, hmy⟩ := own2.rules
      have hlen : (L ++ [(⟨kn, kd, ka, kp⟩ : PR)]).length = m + 1 := by rw [List.length_append, HM.out]; rfl
      rw [hlen] at hc2 own2 ⊢
      refine hK.out _ _ ka' (fun hHeld4 => ?_)
      clear hK K
      try simp only [List.getElem_toArray, List.getElem_cons_zero, List.getElem_cons_succ, Act.put, List.setIfInBounds_toArray, List.set_cons_zero, List.set_cons_succ]
      refine wpAnyH_ready (rs := [16]) (by kernel_rfl) (by simp) ?_
      refine AllReadyH.cons (o := _) rfl (fun K hK => ?_) AllReadyH.nil
      simp only [List.getElem_toArray, List.getElem_cons_zero, List.getElem_cons_succ]
      go_simp
      have HMX := HMAY.out _ (K8.out.trans ka') B (m + 1) c6 _ hlen hr2 (by have := HKM.out; omega)
      rw [mayL_twice (List.mem_of_getElem? HK0.out)] at HMX
      refine HMX.mono ?_
      clear HMX
      rintro e wb ⟨rfl, kb⟩
      refine hK.out _ _ (ka'.trans kb) (fun hHeld5 => ?_)
      clear hK K
      try simp only [List.getElem_toArray, List.getElem_cons_zero, List.getElem_cons_succ, Act.put, List.setIfInBounds_toArray, List.set_cons_zero, List.set_cons_succ]
      refine wpAnyH_take (i := 17) (oi := _) (v := ?ve17) rfl (by kernel_rfl) (by kernel_rfl) (by kernel_rfl) (fun _ _ _ h => absurd h.1 (by simp)) (Or.inl ⟨by rfl, ?hye17⟩) (by assumption) ?reste17
      case hye17 => (intro w hSw; (try dsimp only at hSw); go_simp; try (with_reducible rfl))
      try simp only [List.getElem_toArray, List.getElem_cons_zero, List.getElem_cons_succ, Act.put, List.setIfInBounds_toArray, List.set_cons_zero, List.set_cons_succ]
      refine wpAnyH_done (by kernel_rfl) ?_ _
      refine ⟨rfl, A1, c1, w8.heap.size, B, c6, ?_, ka'.trans kb⟩
      rfl
  case rest8 =>
  rintro a' w9 ⟨A1, c1, bb, B, c6, rfl, k9⟩
  have K9 := Lib.hid (K8.out.trans k9)
  have HT9 := Lib.hid (HT8.out.keep0 k9)
  have HU9 := Lib.hid (HU8.out.keep0 k9)
  have HL9 := Lib.hid (HL8.out.keep0 k9)
  clear k9 HT8 HU8 HL8 K8 K8B
  simp only [Act.put, List.setIfInBounds_toArray, List.set_cons_zero, List.set_cons_succ]
  go_wp2_with fail
  have HN := Lib.hid (((mayL_iff c L).1 HZ.out).2.1)
  obtain ⟨o1, ho1⟩ : ∃ o1, findT (tabL L) (foldB name) = o1 := ⟨_, rfl⟩
  obtain ⟨o3, ho3⟩ : ∃ o3, findT (tabL (L.take kk ++ L.drop (kk + 1))) (foldB name) = o3 := ⟨_, rfl⟩
  obtain ⟨⟨x1n, x1d, x1a, x1p⟩, hx1⟩ : ∃ x, o1.getD zeroPR = x := ⟨_, rfl⟩
  obtain ⟨⟨x3n, x3d, x3a, x3p⟩, hx3⟩ : ∃ x, o3.getD zeroPR = x := ⟨_, rfl⟩
  obtain ⟨p1, hp1⟩ : ∃ p1, o1.isSome = p1 := ⟨_, rfl⟩
  obtain ⟨p3, hp3⟩ : ∃ p3, o3.isSome = p3 := ⟨_, rfl⟩
  have HF1 := Lib.hid (fun (W : World) (kz : Keeps [] w9 W) => find_any W (HLW.out _ (K9.out.trans kz)) tb mb _ (HT9.out.keep0 kz) name)
  have HF2 := Lib.hid (fun (W : World) (kz : Keeps [] w9 W) => find_any W (HLW.out _ (K9.out.trans kz)) ub vb _ (HU9.out.keep0 kz) name)
  have HF3 := Lib.hid (fun (W : World) (kz : Keeps [] w9 W) => find_any W (HLW.out _ (K9.out.trans kz)) lb nb _ (HL9.out.keep0 kz) name)
  rw [ho1, hx1, hp1] at HF1
  rw [findT_perm HN.out (turn_perm L kk), ho1, hx1, hp1] at HF2
  rw [ho3, hx3, hp3] at HF3
  unfold encPR at HF1 HF2 HF3
  have HO1 := Lib.hid ho1
  have HO3 := Lib.hid ho3
  have HX1 := Lib.hid hx1
  have HX3 := Lib.hid hx3
  have HP1 := Lib.hid hp1
  have HP3 := Lib.hid hp3
  clear ho1 ho3 hx1 hx3 hp1 hp3
  refine (HF1.out _ (Keeps.refl _ _)).mono ?_
  rintro e wa ⟨rfl, ka⟩
  have KA := Lib.hid ka
  clear ka
  go_wp2_with fail
  refine calls_gn fun wb hwb => ?_
  obtain ⟨b6, hb6⟩ : ∃ b6, wa.heap.size = b6 := ⟨_, rfl⟩
  have kb : Keeps [] wa wb := by rw [hwb]; exact Keeps.alloc [] wa _
  have h6 : wb.heap[b6]? = some (.cells #[.string x1n, .bool x1d, .int .u32 x1a, .int .u16 x1p] 35 (0, 0)) := by rw [hwb, ← hb6]; exact (MapKept.heap_alloc wa _).1
  rw [hb6]
  have KB := Lib.hid (KA.out.trans kb)
  have H6 := Lib.hid h6
  clear kb h6 hb6 hwb KA
  refine (HF2.out _ KB.out).mono ?_
  rintro e wc ⟨rfl, kc⟩
  have KC := Lib.hid (KB.out.trans kc)
  have H6C := Lib.hid ((kc.block b6 (lt_of_block H6.out) (by simp)).trans H6.out)
  clear kc KB H6
  go_wp2_with fail
  refine calls_gn fun wd hwd => ?_
  obtain ⟨b8, hb8⟩ : ∃ b8, wc.heap.size = b8 := ⟨_, rfl⟩
  have kd : Keeps [] wc wd := by rw [hwd]; exact Keeps.alloc [] wc _
  have h8 : wd.heap[b8]? = some (.cells #[.string x1n, .bool x1d, .int .u32 x1a, .int .u16 x1p] 35 (0, 0)) := by rw [hwd, ← hb8]; exact (MapKept.heap_alloc wc _).1
  rw [hb8]
  have KD := Lib.hid (KC.out.trans kd)
  have H6D := Lib.hid ((kd.block b6 (lt_of_block H6C.out) (by simp)).trans H6C.out)
  have H8 := Lib.hid h8
  clear kd h8 hb8 hwd KC H6C
  refine (HF3.out _ KD.out).mono ?_
  rintro e we ⟨rfl, ke⟩
  have KE := Lib.hid (KD.out.trans ke)
  have h6e := (ke.block b6 (lt_of_block H6D.out) (by simp)).trans H6D.out
  have h8e := (ke.block b8 (lt_of_block H8.out) (by simp)).trans H8.out
  have kx := Keeps.alloc [] we (.cells #[.string x3n, .bool x3d, .int .u32 x3a, .int .u16 x3p] 35)
  have g60 := cell_keeps kx (cell_of_block h6e 0) (by simp)
  have g61 := cell_keeps kx (cell_of_block h6e 1) (by simp)
  have g62 := cell_keeps kx (cell_of_block h6e 2) (by simp)
  have g63 := cell_keeps kx (cell_of_block h6e 3) (by simp)
  have g80 := cell_keeps kx (cell_of_block h8e 0) (by simp)
  have g81 := cell_keeps kx (cell_of_block h8e 1) (by simp)
  have g82 := cell_keeps kx (cell_of_block h8e 2) (by simp)
  have g83 := cell_keeps kx (cell_of_block h8e 3) (by simp)
  have H6E := Lib.hid h6e
  clear kx ke KD H6D H8 h6e h8e HF1 HF2 HF3
  go_wp2_with fail
  refine calls_gn fun wf hwf => ?_
  obtain ⟨b0, hb0⟩ : ∃ b0, we.heap.size = b0 := ⟨_, rfl⟩
  have kf : Keeps [] we wf := by rw [hwf]; exact Keeps.alloc [] we _
  have h0' : wf.heap[b0]? = some (.cells #[.string x3n, .bool x3d, .int .u32 x3a, .int .u16 x3p] 35 (0, 0)) := by rw [hwf, ← hb0]; exact (MapKept.heap_alloc we _).1
  rw [hb0]
  have KF := Lib.hid (KE.out.trans kf)
  have H6F := Lib.hid ((kf.block b6 (lt_of_block H6E.out) (by simp)).trans H6E.out)
  have H0F := Lib.hid h0'
  clear kf h0' hb0 hwf KE H6E g60 g61 g62 g63 g80 g81 g82 g83
  have HSM := Lib.hid (tab_small HZ.out)
  have hlT : (tabL L).length = m := by rw [tabL_eq HN.out, List.length_map, HM.out]
  have HN2 := Lib.hid (((turn_perm L kk).map PR.name).nodup_iff.2 HN.out)
  have hl2 : (L.drop kk ++ L.take kk).length = m := by rw [(turn_perm L kk).length_eq, HM.out]
  have hlU : (tabL (L.drop kk ++ L.take kk)).length = m := by rw [tabL_eq HN2.out, List.length_map, hl2]
  have HA1 := all_any wf tb mb _ (HT9.out.keep0 KF.out) (by rw [tabL_keys HN.out]; exact HN.out) HSM.out (by rw [hlT]; have := HKM.out; omega) (by rw [hlT]; omega)
  rw [hlT, tabL_vals HN.out] at HA1
  have HA2 := Lib.hid (fun (W : World) (kz : Keeps [] w9 W) => all_any W ub vb _ (HU9.out.keep0 kz) (by rw [tabL_keys HN2.out]; exact HN2.out) (tab_small (mayL_perm (turn_perm L kk) HZ.out)) (by rw [hlU]; have := HKM.out; omega) (by rw [hlU]; omega))
  rw [hlU, tabL_vals HN2.out] at HA2
  refine HA1.mono ?_
  clear HA1
  rintro e wg ⟨A1, c1, l1, rfl, hp1, hr1, hq1, hc1, hc1', kg⟩
  have KG := Lib.hid (KF.out.trans kg)
  have H6G := Lib.hid ((kg.block b6 (lt_of_block H6F.out) (by simp)).trans H6F.out)
  have H0G := Lib.hid ((kg.block b0 (lt_of_block H0F.out) (by simp)).trans H0F.out)
  have HQ1 := Lib.hid (And.intro hp1 (And.intro hr1 hq1))
  clear kg KF H6F H0F hp1 hr1 hq1 hlT hlU hl2 HSM
  go_wp2_with fail
  refine (HA2.out _ KG.out).mono ?_
  clear HA2
  rintro e wh ⟨A2, c2, l2, rfl, hp2, hr2, hq2, hc2, hc2', kh⟩
  have KH := Lib.hid (KG.out.trans kh)
  have H6H := Lib.hid ((kh.block b6 (lt_of_block H6G.out) (by simp)).trans H6G.out)
  have H0H := Lib.hid ((kh.block b0 (lt_of_block H0G.out) (by simp)).trans H0G.out)
  obtain rfl : l2 = l1 := (rising_unique (HQ1.out.1.trans (hp2.trans (turn_perm L kk)).symm) HQ1.out.2.1 hr2 ((HQ1.out.1.map PR.name).nodup_iff.2 HN.out)).symm
  have hl1 : l2.length = m := by rw [HQ1.out.1.length_eq, HM.out]
  have HSA := Lib.hid (same_any wh A1 A2 m c1 c2 l2 hl1 (by have := HKM.out; omega) (HQ1.out.2.2.keep0 kh) hq2)
  clear kh KG H6G H0G hp2 hr2 hq2 hl1 hc1 hc2 hc1' hc2'
  go_wp2_with fail
  refine HSA.out.mono ?_
  clear HSA HQ1
  rintro e wi ⟨rfl, ki⟩
  have KI := Lib.hid (KH.out.trans ki)
  have H6I := Lib.hid ((ki.block b6 (lt_of_block H6H.out) (by simp)).trans H6H.out)
  have H0I := Lib.hid ((ki.block b0 (lt_of_block H0H.out) (by simp)).trans H0H.out)
  have KWI := Lib.hid (K9.out.trans KI.out)
  clear ki KH H6H H0H KI HT9 HU9 HL9 HLW HNEW HMAY HRB
  go_wp2_with fail
  have SR := Lib.hid (show wi.drew.cell? ⟨b6, 0, none⟩ = some (.string x1n) ∧ wi.drew.cell? ⟨b, o + kk * 4, none⟩ = some (.string kn) from ⟨cell_of_block (w := wi.drew) H6I.out 0, by have := HRK.out wi.drew KWI.out.drew' 0 (.string kn) rfl; simpa using this⟩)
  have HWKI := Lib.hid (HWK.out wi.drew KWI.out.drew')
  have q0 : wi.drew.cell? ⟨b6, 0, none⟩ = some (.string x1n) := cell_of_block (w := wi.drew) H6I.out 0
  have q1 : wi.drew.cell? ⟨b6, 1, none⟩ = some (.bool x1d) := cell_of_block (w := wi.drew) H6I.out 1
  have q2 : wi.drew.cell? ⟨b6, 2, none⟩ = some (.int .u32 x1a) := cell_of_block (w := wi.drew) H6I.out 2
  have q3 : wi.drew.cell? ⟨b6, 3, none⟩ = some (.int .u16 x1p) := cell_of_block (w := wi.drew) H6I.out 3
  have r0 : wi.drew.cell? ⟨b0, 0, none⟩ = some (.string x3n) := cell_of_block (w := wi.drew) H0I.out 0
  have r1 : wi.drew.cell? ⟨b0, 1, none⟩ = some (.bool x3d) := cell_of_block (w := wi.drew) H0I.out 1
  have r2 : wi.drew.cell? ⟨b0, 2, none⟩ = some (.int .u32 x3a) := cell_of_block (w := wi.drew) H0I.out 2
  have r3 : wi.drew.cell? ⟨b0, 3, none⟩ = some (.int .u16 x3p) := cell_of_block (w := wi.drew) H0I.out 3
  clear HWK
  cases p1 with
  | false =>
    have ho1 : o1 = none := by have := HP1.out; cases o1 with | none => rfl | some x => cases this
    have hoo : o3 = o1 := by rw [← HO3.out, ← HO1.out]; exact less_other HN.out HK0.out (fun r hr => by rw [HO1.out, ho1] at hr; cases hr)
    have hxx := HX3.out
    rw [hoo, HX1.out] at hxx
    injection hxx with i1 i2 i3 i4
    subst i1 i2 i3 i4
    have hpp := HP3.out
    rw [hoo, HP1.out] at hpp
    subst hpp
    refine wp_region_held_drew (S := fun W => Keeps [] wi W) (by kernel_rfl) ?hS15 (fun hHeld => ?_)
    case hS15 => exact (Keeps.refl [] _).drew'
    refine wpAnyH_take (i := 0) (oi := _) (v := ?vf0) rfl (by kernel_rfl) (by kernel_rfl) (by kernel_rfl) (fun _ _ _ h => h) (Or.inl ⟨by rfl, ?hyf0⟩) (by assumption) ?restf0
    case hyf0 => (intro w hSw; (try dsimp only at hSw); go_simp; try (with_reducible rfl))
    try simp only [List.getElem_toArray, List.getElem_cons_zero, List.getElem_cons_succ, Act.put, List.setIfInBounds_toArray, List.set_cons_zero, List.set_cons_succ]
    refine wpAnyH_take (i := 1) (oi := _) (v := ?vf1) rfl (by kernel_rfl) (by kernel_rfl) (by kernel_rfl) (fun _ _ _ h => h) (Or.inl ⟨by rfl, ?hyf1⟩) (by assumption) ?restf1
    case hyf1 => (intro w hSw; (try dsimp only at hSw); go_simp; try (with_reducible rfl))
    try simp only [List.getElem_toArray, List.getElem_cons_zero, List.getElem_cons_succ, Act.put, List.setIfInBounds_toArray, List.set_cons_zero, List.set_cons_succ]
    refine wpAnyH_take (i := 2) (oi := _) (v := undef) rfl (by kernel_rfl) (by kernel_rfl) (by kernel_rfl) (fun _ _ _ h => h) (Or.inr ⟨by rfl, rfl⟩) (by assumption) ?_
    try simp only [List.getElem_toArray, List.getElem_cons_zero, List.getElem_cons_succ, Act.put, List.setIfInBounds_toArray, List.set_cons_zero, List.set_cons_succ]
    refine wpAnyH_take (i := 3) (oi := _) (v := undef) rfl (by kernel_rfl) (by kernel_rfl) (by kernel_rfl) (fun _ _ _ h => h) (Or.inr ⟨by rfl, rfl⟩) (by assumption) ?_
    try simp only [List.getElem_toArray, List.getElem_cons_zero, List.getElem_cons_succ, Act.put, List.setIfInBounds_toArray, List.set_cons_zero, List.set_cons_succ]
    refine wpAnyH_take (i := 4) (oi := _) (v := undef) rfl (by kernel_rfl) (by kernel_rfl) (by kernel_rfl) (fun _ _ _ h => h) (Or.inr ⟨by rfl, rfl⟩) (by assumption) ?_
    try simp only [List.getElem_toArray, List.getElem_cons_zero, List.getElem_cons_succ, Act.put, List.setIfInBounds_toArray, List.set_cons_zero, List.set_cons_succ]
    refine wpAnyH_take (i := 5) (oi := _) (v := undef) rfl (by kernel_rfl) (by kernel_rfl) (by kernel_rfl) (fun _ _ _ h => h) (Or.inr ⟨by rfl, rfl⟩) (by assumption) ?_
    try simp only [List.getElem_toArray, List.getElem_cons_zero, List.getElem_cons_succ, Act.put, List.setIfInBounds_toArray, List.set_cons_zero, List.set_cons_succ]
    refine wpAnyH_take (i := 6) (oi := _) (v := undef) rfl (by kernel_rfl) (by kernel_rfl) (by kernel_rfl) (fun _ _ _ h => h) (Or.inr ⟨by rfl, rfl⟩) (by assumption) ?_
    try simp only [List.getElem_toArray, List.getElem_cons_zero, List.getElem_cons_succ, Act.put, List.setIfInBounds_toArray, List.set_cons_zero, List.set_cons_succ]
    refine wpAnyH_take (i := 7) (oi := _) (v := undef) rfl (by kernel_rfl) (by kernel_rfl) (by kernel_rfl) (fun _ _ _ h => h) (Or.inr ⟨by rfl, rfl⟩) (by assumption) ?_
    try simp only [List.getElem_toArray, List.getElem_cons_zero, List.getElem_cons_succ, Act.put, List.setIfInBounds_toArray, List.set_cons_zero, List.set_cons_succ]
    refine wpAnyH_take (i := 8) (oi := _) (v := undef) rfl (by kernel_rfl) (by kernel_rfl) (by kernel_rfl) (fun _ _ _ h => h) (Or.inr ⟨by rfl, rfl⟩) (by assumption) ?_
    try simp only [List.getElem_toArray, List.getElem_cons_zero, List.getElem_cons_succ, Act.put, List.setIfInBounds_toArray, List.set_cons_zero, List.set_cons_succ]
    refine wpAnyH_take (i := 9) (oi := _) (v := undef) rfl (by kernel_rfl) (by kernel_rfl) (by kernel_rfl) (fun _ _ _ h => h) (Or.inr ⟨by rfl, rfl⟩) (by assumption) ?_
    try simp only [List.getElem_toArray, List.getElem_cons_zero, List.getElem_cons_succ, Act.put, List.setIfInBounds_toArray, List.set_cons_zero, List.set_cons_succ]
    refine wpAnyH_take (i := 10) (oi := _) (v := ?vf10) rfl (by kernel_rfl) (by kernel_rfl) (by kernel_rfl) (fun _ _ _ h => h) (Or.inl ⟨by rfl, ?hyf10⟩) (by assumption) ?restf10
    case hyf10 => (intro w hSw; (try dsimp only at hSw); go_simp; try (with_reducible rfl))
    try simp only [List.getElem_toArray, List.getElem_cons_zero, List.getElem_cons_succ, Act.put, List.setIfInBounds_toArray, List.set_cons_zero, List.set_cons_succ]
    refine wpAnyH_done (by kernel_rfl) ?_ _
    clear hHeld
    go_wp2_with fail
    refine (HWKI.out).mono ?_
    rintro e wj ⟨rfl, kj⟩
    have KJ := Lib.hid (KWI.out.drew'.trans kj)
    clear kj
    go_wp2_with fail
    go_ret
    exact ⟨by simp, KJ.out⟩
  | true =>
    obtain ⟨r1', hr1'⟩ := Option.isSome_iff_exists.1 HP1.out
    have e1 : r1' = ⟨x1n, x1d, x1a, x1p⟩ := by have := HX1.out; rw [hr1'] at this; exact this
    subst e1
    by_cases hnm : x1n = kn
    · subst hnm
      have hcmp : (x1n.toList == x1n.toList) = true := by simp
      cases p3 with
      | false =>
        go_region_held3 (fun W => W.cell? ⟨b6, 0, none⟩ = some (.string x1n) ∧ W.cell? ⟨b, o + kk * 4, none⟩ = some (.string x1n))
          (exact SR.out)
          (fail)
        go_wp2_with fail
        refine (HWKI.out).mono ?_
        rintro e wj ⟨rfl, kj⟩
        have KJ := Lib.hid (KWI.out.drew'.trans kj)
        clear kj
        go_wp2_with fail
        go_ret
        exact ⟨by simp, KJ.out⟩
      | true =>
        obtain ⟨r3', hr3'⟩ := Option.isSome_iff_exists.1 HP3.out
        have e3 : r3' = ⟨x3n, x3d, x3a, x3p⟩ := by have := HX3.out; rw [hr3'] at this; exact this
        subst e3
        have hown := less_own HN.out HK0.out (name := name)
        have hO3 : findT (tabL (lessL L kk)) (foldB name) = o3 := HO3.out
        rw [hO3, hr3'] at hown
        obtain ⟨y, hy, hy1, hy2⟩ := hown.resolve_left (by simp)
        injection hy with hy
        subst hy
        have hsh := less_short HN.out HK0.out (HO1.out.trans hr1') rfl (hO3.trans hr3')
        have hne : (x3n.toList == x1n.toList) = false := by rw [ba_toList]; exact decide_eq_false hy1
        have hw3 : wrap64 ((name.size : Int) + 3) = (name.size : Int) + 3 := by unfold wrap64; omega
        have hlt3 : (x3n.size : Int) < max (x1n.size : Int) ((name.size : Int) + 3) := by
          exact lt_max3 hy2
        clear hown hy1 hy2 hsh hO3
        go_region_held3 (fun W => W.cell? ⟨b6, 0, none⟩ = some (.string x1n) ∧ W.cell? ⟨b, o + kk * 4, none⟩ = some (.string x1n))
          (exact SR.out)
          (fail)
        go_wp2_with fail
        refine (HWKI.out).mono ?_
        rintro e wj ⟨rfl, kj⟩
        have KJ := Lib.hid (KWI.out.drew'.trans kj)
        clear kj
        go_wp2_with fail
        go_ret
        exact ⟨by simp, KJ.out⟩
    · have hcmp : (x1n.toList == kn.toList) = false := by rw [ba_toList]; exact decide_eq_false hnm
      have hoo : o3 = o1 := by rw [← HO3.out, ← HO1.out]; exact less_other HN.out HK0.out (fun r hr => by rw [HO1.out, hr1'] at hr; injection hr with hr; rw [← hr]; exact hnm)
      have hxx := HX3.out
      rw [hoo, HX1.out] at hxx
      injection hxx with i1 i2 i3 i4
      subst i1 i2 i3 i4
      have hpp := HP3.out
      rw [hoo, HP1.out] at hpp
      subst hpp
      go_region_held3 (fun W => W.cell? ⟨b6, 0, none⟩ = some (.string x1n) ∧ W.cell? ⟨b, o + kk * 4, none⟩ = some (.string kn))
        (exact SR.out)
        (fail)
      go_wp2_with fail
      refine (HWKI.out).mono ?_
      rintro e wj ⟨rfl, kj⟩
      have KJ := Lib.hid (KWI.out.drew'.trans kj)
      clear kj
      go_wp2_with fail
      go_ret
      exact ⟨by simp, KJ.out⟩
theorem order_walk (w : World) (hw : LW w) (c : PC) (r : PCR) (A : Option Addr) (n k : Nat) (l : List PR) (hn : l.length = n) (hl : RulesAt w A l) (hnk : n ≤ k) (at_ : Int) (hat : 0 ≤ at_ ∧ at_ ≤ 255) (name : ByteArray) :
    Calls Tryd.prog 6 #[cfgV c r, .slice A n k, .int .u8 at_, .string name] w fun e w' => e = .returned (.bool true) ∧ Keeps [] w w' := by
  cases hz : mayL c (l.take 60) with
  | false => exact po_bad w hw c r A n k l hn hl hnk at_ name hz
  | true =>
    by_cases h0 : (l.take 60).length = 0
    · exact po_none w hw c r A n k l hn hl hnk at_ name hz h0
    · have hne : ¬ l = [] := by rintro rfl; simp at h0
      obtain ⟨b, o, rfl, _⟩ := hl.resolve_left hne
      have hm := Int.emod_nonneg at_ (show (((l.take 60).length : Nat) : Int) ≠ 0 by omega)
      exact po_main w hw c r b o n k l hn hl hnk at_ name hz h0 (at_ % ((l.take 60).length : Int)).toNat (by omega) hat
set_option maxRecDepth 100000 in
theorem policyOrder_typed {H : Type} (enc : TypeId × Value → H) (W : World) (base : Nat) {v0 v1 v2 v3 : Value} {d0 d1 d2 d3 : DataW H} {p0 p1 p2 p3 : List MemPlace}
    (o0 : Value.okWide Tryd.prog W .any base 29 v0) (o1 : Value.okWide Tryd.prog W .any base 26 v1) (o2 : Value.okWide Tryd.prog W .any base 5 v2) (o3 : Value.okWide Tryd.prog W .any base 9 v3)
    (h0 : DataW.Trod enc Tryd.prog W 0 (fun _ => true) true 29 v0 d0 p0) (h1 : DataW.Trod enc Tryd.prog W 0 (fun _ => true) true 26 v1 d1 p1) (h2 : DataW.Trod enc Tryd.prog W 0 (fun _ => true) true 5 v2 d2 p2) (h3 : DataW.Trod enc Tryd.prog W 0 (fun _ => true) true 9 v3 d3 p3) (hL : LW W) :
    Calls Tryd.prog 6 #[v0, v1, v2, v3] W fun e W' => e = .returned (.bool true) ∧ Below W.heap.size W W' := by
  obtain ⟨c, r, rfl⟩ := open_config o0 h0
  obtain ⟨A, n, k, l, rfl, hn, hl, hnk, hk⟩ := open_rules o1 h1
  obtain ⟨a, rfl, _, _, wa⟩ := open_int Tryd.underlying5 o2 h2
  obtain ⟨s, rfl, _, _, hs⟩ := Go.ChangeMaps.open_string Tryd.underlying9 o3 h3
  have hat : 0 ≤ a ∧ a ≤ 255 := by
    simp only [Lit.wf, Bool.and_eq_true, decide_eq_true_eq] at wa
    have e1 : IntKind.u8.min = 0 := by decide
    have e2 : IntKind.u8.max = 255 := by decide
    rw [e1, e2] at wa
    exact wa
  exact (order_walk W hL c r A n k l hn hl hnk a hat s).mono fun E W' ⟨he, k⟩ => ⟨he, k.below (Nat.le_refl _) (by simp)⟩
end Go.Proofs.YtbmkdnkiojapbaaDoor
