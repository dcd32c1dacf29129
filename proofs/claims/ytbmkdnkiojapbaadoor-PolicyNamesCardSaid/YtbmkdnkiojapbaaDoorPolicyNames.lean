/-
  The walk of the law PolicyNames. Condition: the library's tables lie as the row lists them; the arguments are in the ranges of their kinds.
-/
import Derived.Test.YtbmkdnkiojapbaaDoorPolQ
namespace Go.Proofs.YtbmkdnkiojapbaaDoor
open Go.RowKit Go.ChangeShapes Go.WideShapes Go.ChangeAt Go.Joins Go.Lib
set_option linter.unusedVariables false
set_option linter.unusedSimpArgs false

set_option maxRecDepth 100000 in
set_option maxHeartbeats 8000000 in
theorem pn_bad (w : World) (hw : LW w) (c : PC) (r : PCR) (A : Option Addr) (n k : Nat) (l : List PR) (hn : l.length = n) (hl : RulesAt w A l) (hnk : n ≤ k) (name : ByteArray) (hz : mayL c (l.take 60) = false) :
    Calls Tryd.prog 5 #[cfgV c r, .slice A n k, .string name] w fun e w' => e = .returned (.bool true) ∧ Keeps [] w w' := by
  obtain ⟨CS, hCS⟩ : ∃ CS : List Value, CS = [.int .u32 c.inside, .int .u32 c.mask, .int .u32 c.outer, .int .u16 r.lo, .int .u16 r.hi, .int .u64 r.qu, .int .i64 r.fl, .slice r.wa r.wn r.wc, .int .i64 r.sn, .int .u16 r.ms, .int .i64 r.sc, .bool r.sk, .int .u64 r.ky, .slice r.ra r.rn r.rc, .slice r.fa r.fn r.fc, .int .u64 r.rt, .int .i64 r.tr, .int .u64 r.dl, .int .u64 r.wt] := ⟨_, rfl⟩
  have hcv : cfgV c r = .agg CS.toArray := by rw [hCS]; rfl
  obtain ⟨m, hm⟩ : ∃ m, (l.take 60).length = m := ⟨_, rfl⟩
  have hm1 : min (n : Int) 60 = m := by rw [← hm, ← hn]; simp; omega
  have hm2 : (m : Int) ≤ k := by omega
  have hm3 : (0 : Int) ≤ m := by omega
  have hcl : CS.length = 19 := by rw [hCS]; rfl
  have HCL := Lib.hid hcl
  have k1 : Keeps [] w ((w.alloc (.cells CS.toArray 29)).alloc (.cells #[.slice A m k] 26)) := (Keeps.alloc [] w _).alloc' _
  have HRB := Lib.hid (rangeAt_keeps (Keeps.alloc [] (w.alloc (.cells CS.toArray 29)) (.cells #[.slice A m k] 26)) (range_box w CS 29) (by simp))
  have K1 := Lib.hid k1
  have HW := Lib.hid hw
  have HL := Lib.hid (hl.take 60)
  have HM := Lib.hid hm
  rw [hcv]
  have HWK := Lib.hid (fun (W : World) (kz : Keeps [] w W) => wakes_any W (hw.keep0 kz))
  have HNEW0 := Lib.hid (fun (W : World) (kz : Keeps [] w W) => new_bad W (hw.keep0 kz) c r A m k (l.take 60) hm ((hl.take 60).keep0 kz) (by omega) hz)
  rw [hcv] at HNEW0
  clear hw hl hn hm hcv hCS hcl hz k1
  go_enter Tryd.func5, Tryd.ntmps5
  go_wp2_with (refine wpList_load_want 29 (.tmp 3) rfl (by simp [Region.wanted, yielded]) w.heap.size 0 rfl _ _ HRB.out Tryd.underlying29 rfl (by rw [HCL.out]; kernel_rfl) ?_)
  refine (HNEW0.out _ K1.out).mono ?_
  rintro e w2 ⟨rfl, k2⟩
  have K2 := Lib.hid (K1.out.trans k2)
  clear k2
  go_wp2_with fail
  refine (HWK.out _ K2.out).mono ?_
  rintro e w3 ⟨rfl, k3⟩
  have K3 := Lib.hid (K2.out.trans k3)
  clear k3
  go_wp2_with fail
  go_ret
  exact ⟨rfl, K3.out⟩
set_option maxRecDepth 100000 in
set_option maxHeartbeats 8000000 in
theorem pn_long (w : World) (hw : LW w) (c : PC) (r : PCR) (A : Option Addr) (n k : Nat) (l : List PR) (hn : l.length = n) (hl : RulesAt w A l) (hnk : n ≤ k) (name : ByteArray) (hz : mayL c (l.take 60) = true) (hlong : 300 < name.size) :
    Calls Tryd.prog 5 #[cfgV c r, .slice A n k, .string name] w fun e w' => e = .returned (.bool true) ∧ Keeps [] w w' := by
  obtain ⟨CS, hCS⟩ : ∃ CS : List Value, CS = [.int .u32 c.inside, .int .u32 c.mask, .int .u32 c.outer, .int .u16 r.lo, .int .u16 r.hi, .int .u64 r.qu, .int .i64 r.fl, .slice r.wa r.wn r.wc, .int .i64 r.sn, .int .u16 r.ms, .int .i64 r.sc, .bool r.sk, .int .u64 r.ky, .slice r.ra r.rn r.rc, .slice r.fa r.fn r.fc, .int .u64 r.rt, .int .i64 r.tr, .int .u64 r.dl, .int .u64 r.wt] := ⟨_, rfl⟩
  have hcv : cfgV c r = .agg CS.toArray := by rw [hCS]; rfl
  obtain ⟨m, hm⟩ : ∃ m, (l.take 60).length = m := ⟨_, rfl⟩
  have hm1 : min (n : Int) 60 = m := by rw [← hm, ← hn]; simp; omega
  have hm2 : (m : Int) ≤ k := by omega
  have hm3 : (0 : Int) ≤ m := by omega
  have hcl : CS.length = 19 := by rw [hCS]; rfl
  have HCL := Lib.hid hcl
  have k1 : Keeps [] w ((w.alloc (.cells CS.toArray 29)).alloc (.cells #[.slice A m k] 26)) := (Keeps.alloc [] w _).alloc' _
  have HRB := Lib.hid (rangeAt_keeps (Keeps.alloc [] (w.alloc (.cells CS.toArray 29)) (.cells #[.slice A m k] 26)) (range_box w CS 29) (by simp))
  have K1 := Lib.hid k1
  have HW := Lib.hid hw
  have HL := Lib.hid (hl.take 60)
  have HM := Lib.hid hm
  rw [hcv]
  have HWK := Lib.hid (fun (W : World) (kz : Keeps [] w W) => wakes_any W (hw.keep0 kz))
  have HNEW1 := Lib.hid (fun (W : World) (kz : Keeps [] w W) => new_ok W (hw.keep0 kz) c r A m k (l.take 60) hm ((hl.take 60).keep0 kz) (by omega) hz)
  rw [hcv] at HNEW1
  have hlong' : (300 : Int) < (name.size : Int) := by omega
  clear hw hl hn hm hcv hCS hcl hz k1 hlong
  go_enter Tryd.func5, Tryd.ntmps5
  go_wp2_with (refine wpList_load_want 29 (.tmp 3) rfl (by simp [Region.wanted, yielded]) w.heap.size 0 rfl _ _ HRB.out Tryd.underlying29 rfl (by rw [HCL.out]; kernel_rfl) ?_)
  refine (HNEW1.out _ K1.out).mono ?_
  rintro e w2 ⟨tb, mb, rfl, ht2, k2, hs1, hs2⟩
  have K2 := Lib.hid (K1.out.trans k2)
  clear k2 ht2 hs1 hs2
  go_wp2_with fail
  refine (HWK.out _ K2.out).mono ?_
  rintro e w3 ⟨rfl, k3⟩
  have K3 := Lib.hid (K2.out.trans k3)
  clear k3
  go_wp2_with fail
  go_ret
  exact ⟨rfl, K3.out⟩
set_option maxRecDepth 100000 in
set_option maxHeartbeats 8000000 in
theorem pn_ok (w : World) (hw : LW w) (c : PC) (r : PCR) (A : Option Addr) (n k : Nat) (l : List PR) (hn : l.length = n) (hl : RulesAt w A l) (hnk : n ≤ k) (name : ByteArray) (hz : mayL c (l.take 60) = true) (hlong : ¬ 300 < name.size) :
    Calls Tryd.prog 5 #[cfgV c r, .slice A n k, .string name] w fun e w' => e = .returned (.bool true) ∧ Keeps [] w w' := by
  obtain ⟨CS, hCS⟩ : ∃ CS : List Value, CS = [.int .u32 c.inside, .int .u32 c.mask, .int .u32 c.outer, .int .u16 r.lo, .int .u16 r.hi, .int .u64 r.qu, .int .i64 r.fl, .slice r.wa r.wn r.wc, .int .i64 r.sn, .int .u16 r.ms, .int .i64 r.sc, .bool r.sk, .int .u64 r.ky, .slice r.ra r.rn r.rc, .slice r.fa r.fn r.fc, .int .u64 r.rt, .int .i64 r.tr, .int .u64 r.dl, .int .u64 r.wt] := ⟨_, rfl⟩
  have hcv : cfgV c r = .agg CS.toArray := by rw [hCS]; rfl
  obtain ⟨m, hm⟩ : ∃ m, (l.take 60).length = m := ⟨_, rfl⟩
  have hm1 : min (n : Int) 60 = m := by rw [← hm, ← hn]; simp; omega
  have hm2 : (m : Int) ≤ k := by omega
  have hm3 : (0 : Int) ≤ m := by omega
  have hcl : CS.length = 19 := by rw [hCS]; rfl
  have HCL := Lib.hid hcl
  have k1 : Keeps [] w ((w.alloc (.cells CS.toArray 29)).alloc (.cells #[.slice A m k] 26)) := (Keeps.alloc [] w _).alloc' _
  have HRB := Lib.hid (rangeAt_keeps (Keeps.alloc [] (w.alloc (.cells CS.toArray 29)) (.cells #[.slice A m k] 26)) (range_box w CS 29) (by simp))
  have K1 := Lib.hid k1
  have HW := Lib.hid hw
  have HL := Lib.hid (hl.take 60)
  have HM := Lib.hid hm
  rw [hcv]
  have HWK := Lib.hid (fun (W : World) (kz : Keeps [] w W) => wakes_any W (hw.keep0 kz))
  have HNEW1 := Lib.hid (fun (W : World) (kz : Keeps [] w W) => new_ok W (hw.keep0 kz) c r A m k (l.take 60) hm ((hl.take 60).keep0 kz) (by omega) hz)
  rw [hcv] at HNEW1
  have HLW := Lib.hid (fun (W : World) (kz : Keeps [] w W) => hw.keep0 kz)
  have hlong' : ¬ (300 : Int) < (name.size : Int) := by omega
  have HNS := Lib.hid (show name.size ≤ 300 by omega)
  clear hw hl hn hm hcv hCS hcl hz k1 hlong
  go_enter Tryd.func5, Tryd.ntmps5
  go_wp2_with (refine wpList_load_want 29 (.tmp 3) rfl (by simp [Region.wanted, yielded]) w.heap.size 0 rfl _ _ HRB.out Tryd.underlying29 rfl (by rw [HCL.out]; kernel_rfl) ?_)
  refine (HNEW1.out _ K1.out).mono ?_
  rintro e w2 ⟨tb, mb, rfl, ht2, k2, hs1, hs2⟩
  obtain ⟨lb, hlb⟩ : ∃ lb, w.heap.size + 1 = lb := ⟨_, rfl⟩
  have hc2 : w2.cell? ⟨lb, 0, none⟩ = some (.slice A m k) := by
    have h1 := (MapKept.heap_alloc (w.alloc (.cells CS.toArray 29)) (.cells #[.slice A m k] 26)).1
    rw [World.size_alloc, hlb] at h1
    exact cell_keeps k2 (cell_of_block h1 0) (by simp)
  have K2 := Lib.hid (K1.out.trans k2)
  have HC2 := Lib.hid hc2
  have HT2 := Lib.hid ht2
  have HL2 := Lib.hid (HL.out.keep0 K2.out)
  rw [hlb]
  clear k2 ht2 hs1 hs2 hc2 hlb
  go_wp2_with fail
  obtain ⟨o1, ho1⟩ : ∃ o1, findT (tabL (l.take 60)) (foldB name) = o1 := ⟨_, rfl⟩
  obtain ⟨o2, ho2⟩ : ∃ o2, findT (tabL (l.take 60)) (foldB (upperS name)) = o2 := ⟨_, rfl⟩
  obtain ⟨⟨xn, xd, xa, xp⟩, hx⟩ : ∃ x, o1.getD zeroPR = x := ⟨_, rfl⟩
  obtain ⟨⟨yn, yd, ya, yp⟩, hy⟩ : ∃ y, o2.getD zeroPR = y := ⟨_, rfl⟩
  obtain ⟨p1, hp1⟩ : ∃ p1, o1.isSome = p1 := ⟨_, rfl⟩
  obtain ⟨p2, hp2⟩ : ∃ p2, o2.isSome = p2 := ⟨_, rfl⟩
  obtain ⟨fb, hfb⟩ : ∃ fb, foldB name = fb := ⟨_, rfl⟩
  obtain ⟨fi, hfi⟩ : ∃ fi, foldIs name = fi := ⟨_, rfl⟩
  have HF1 := Lib.hid (fun (W : World) (kz : Keeps [] w2 W) => find_any W (HLW.out _ (K2.out.trans kz)) tb mb _ (HT2.out.keep0 kz) name)
  have HF2 := Lib.hid (fun (W : World) (kz : Keeps [] w2 W) => find_any W (HLW.out _ (K2.out.trans kz)) tb mb _ (HT2.out.keep0 kz) (upperS name))
  have HFO := Lib.hid (fun (W : World) (kz : Keeps [] w2 W) => fold_any W (HLW.out _ (K2.out.trans kz)) name)
  have HUP := Lib.hid (fun (W : World) (kz : Keeps [] w2 W) => upper_any W (HLW.out _ (K2.out.trans kz)) name (by have := HNS.out; omega))
  have HHAS := Lib.hid (fun (W : World) (kz : Keeps [] w2 W) (z : ByteArray) => has_any W lb A m k (l.take 60) HM.out (by have := HM.out; simp at this; omega) (HL2.out.keep0 kz) (cell_keeps kz HC2.out (by simp)) z)
  have HEQ := Lib.hid (show fi = true → o2 = o1 from fun h => by rw [← ho1, ← ho2, foldB_upper (by rw [hfi, h])])
  rw [ho1, hx, hp1] at HF1
  rw [ho2, hy, hp2] at HF2
  rw [hfb, hfi] at HFO
  unfold encPR at HF1 HF2
  have HO1 := Lib.hid ho1
  have HX := Lib.hid hx
  have HY := Lib.hid hy
  have HP1 := Lib.hid hp1
  have HP2 := Lib.hid hp2
  have HFB := Lib.hid hfb
  have HFI := Lib.hid hfi
  clear ho1 ho2 hx hy hp1 hp2 hfb hfi
  refine (HF1.out _ (Keeps.refl _ _)).mono ?_
  rintro e w3 ⟨rfl, k3⟩
  have K3 := Lib.hid k3
  clear k3
  go_wp2_with fail
  refine calls_gn fun w4 hw4 => ?_
  have k4 : Keeps [] w3 w4 := by rw [hw4]; exact Keeps.alloc [] w3 _
  obtain ⟨nb, hnb⟩ : ∃ nb, w3.heap.size = nb := ⟨_, rfl⟩
  have hb4 : w4.heap[nb]? = some (.cells #[.string xn, .bool xd, .int .u32 xa, .int .u16 xp] 35 (0, 0)) := by rw [hw4, ← hnb]; exact (MapKept.heap_alloc w3 _).1
  rw [hnb]
  have K4 := Lib.hid (K3.out.trans k4)
  have HB4 := Lib.hid hb4
  clear hw4 k4 hnb hb4
  refine (HFO.out _ K4.out).mono ?_
  rintro e w5 ⟨rfl, k5⟩
  have K5 := Lib.hid (K4.out.trans k5)
  have HB5 := Lib.hid ((k5.block nb (lt_of_block HB4.out) (by simp)).trans HB4.out)
  clear k5 HB4
  go_wp2_with fail
  refine (HUP.out _ K5.out).mono ?_
  rintro e w6 ⟨rfl, k6⟩
  have K6 := Lib.hid (K5.out.trans k6)
  have HB6 := Lib.hid ((k6.block nb (lt_of_block HB5.out) (by simp)).trans HB5.out)
  clear k6 HB5
  go_wp2_with fail
  refine (HF2.out _ K6.out).mono ?_
  rintro e w7 ⟨rfl, k7⟩
  have K7 := Lib.hid (K6.out.trans k7)
  have HB7 := Lib.hid ((k7.block nb (lt_of_block HB6.out) (by simp)).trans HB6.out)
  clear k7 HB6
  have hcx : w7.cell? ⟨nb, 0, none⟩ = some (.string xn) := cell_of_block HB7.out 0
  have hcd : w7.cell? ⟨nb, 1, none⟩ = some (.bool xd) := cell_of_block HB7.out 1
  have hca : w7.cell? ⟨nb, 2, none⟩ = some (.int .u32 xa) := cell_of_block HB7.out 2
  have hcp : w7.cell? ⟨nb, 3, none⟩ = some (.int .u16 xp) := cell_of_block HB7.out 3
  cases fi with
  | false =>
    obtain rfl : fb = ⟨#[]⟩ := by rw [← HFB.out]; exact foldB_no HFI.out
    have hl := findT_nil (l.take 60)
    have ho := HO1.out
    rw [HFB.out] at ho
    rw [ho, HX.out, HP1.out] at hl
    obtain rfl : xn = ⟨#[]⟩ := hl.2
    have HH := HHAS.out (w7.alloc (.cells #[.string yn, .bool yd, .int .u32 ya, .int .u16 yp] 35)) (K7.out.alloc' _) ⟨#[]⟩
    rw [← hl.1] at HH
    have HHH := Lib.hid HH
    clear hl ho HH
    go_wp2_with fail
    refine HHH.out.mono ?_
    rintro e w8 ⟨rfl, rfl⟩
    have hcx8 : (w7.alloc (.cells #[.string yn, .bool yd, .int .u32 ya, .int .u16 yp] 35)).cell? ⟨nb, 0, none⟩ = some (.string ⟨#[]⟩) := cell_keeps (Keeps.alloc [] w7 _) hcx (by simp)
    have HK8 := Lib.hid (K2.out.trans (K7.out.alloc' (.cells #[.string yn, .bool yd, .int .u32 ya, .int .u16 yp] 35)))
    obtain ⟨w8, hw8⟩ : ∃ w8, w7.alloc (.cells #[.string yn, .bool yd, .int .u32 ya, .int .u16 yp] 35) = w8 := ⟨_, rfl⟩
    rw [hw8] at HK8 hcx8 ⊢
    clear hcx hcd hca hcp hw8
    go_wp2_with fail
    refine (HWK.out _ HK8.out).mono ?_
    rintro e w9 ⟨rfl, k9⟩
    have K9 := Lib.hid (HK8.out.trans k9)
    clear k9
    go_wp2_with fail
    go_ret
    exact ⟨by simp, K9.out⟩
  | true =>
    obtain rfl : o2 = o1 := HEQ.out rfl
    have hxy := HX.out.symm.trans HY.out
    injection hxy with e1 e2 e3 e4
    subst e1 e2 e3 e4
    obtain rfl : p1 = p2 := HP1.out.symm.trans HP2.out
    have kx := Keeps.alloc [] w7 (.cells #[.string xn, .bool xd, .int .u32 xa, .int .u16 xp] 35)
    have gcx := cell_keeps kx hcx (by simp)
    have gcd := cell_keeps kx hcd (by simp)
    have gca := cell_keeps kx hca (by simp)
    have gcp := cell_keeps kx hcp (by simp)
    clear kx
    go_wp2_with fail
    refine calls_gn fun w8 hw8 => ?_
    have k8 : Keeps [] w7 w8 := by rw [hw8]; exact Keeps.alloc [] w7 _
    have K8 := Lib.hid (K7.out.trans k8)
    have hc8 : w8.cell? ⟨nb, 0, none⟩ = some (.string xn) := cell_keeps k8 hcx (by simp)
    have HC8 := Lib.hid hc8
    clear hcx hcd hca hcp gcx gcd gca gcp hw8 k8 hc8
    have HFS := Lib.hid (show fb.size ≤ 253 by rw [← HFB.out]; exact fold_size name)
    have HFN := Lib.hid (show fb.toList.isEmpty = false by rw [← HFB.out]; exact foldB_ne HFI.out)
    have HO2 := Lib.hid (show findT (tabL (l.take 60)) fb = o2 by rw [← HFB.out]; exact HO1.out)
    obtain ⟨q1, hq1⟩ : ∃ q1, hasL (l.take 60) fb = q1 := ⟨_, rfl⟩
    have HQ := Lib.hid hq1
    have HH := HHAS.out w8 K8.out fb
    rw [hq1] at HH
    clear hq1
    refine HH.mono ?_
    clear HH
    rintro e w9 ⟨rfl, h9⟩
    obtain rfl := h9.symm
    cases q1 with
    | true =>
      obtain ⟨x, hx1, hx2⟩ := findT_own HFN.out HQ.out
      have ho := HO2.out.symm.trans hx1
      have h1 := HX.out
      rw [ho] at h1
      have h2 := HP1.out
      rw [ho] at h2
      have h1' : x = ⟨xn, xd, xa, xp⟩ := h1
      subst h1'
      have h2' : true = p1 := h2
      subst h2'
      have hx2' : xn = fb := hx2
      subst hx2'
      have hc8 := HC8.out
      clear ho h1 h2 hx1 hx2
      go_wp2_with fail
      refine (HWK.out _ (K2.out.trans K8.out)).mono ?_
      rintro e wa ⟨rfl, ka⟩
      have KA := Lib.hid ((K2.out.trans K8.out).trans ka)
      clear ka
      go_wp2_with fail
      go_ret
      exact ⟨by simp, KA.out⟩
    | false =>
      go_wp2_with fail
      go_loopw [16] (fun iv wr => ∃ i : Nat, iv = .int .i64 i ∧ i ≤ fb.size ∧ w8 = wr ∧ Hid (∀ z ∈ upB fb i, hasL (l.take 60) z = false)) (fun iv _ => fb.size - (intOf iv).toNat)
      case atStart => exact ⟨0, rfl, by omega, rfl, Lib.hid (up_own HQ.out)⟩
      case round =>
        obtain ⟨i, rfl, hi, rfl, HU⟩ := hrel
        by_cases hlt : i < fb.size
        · have hlt' : (i : Int) < (fb.size : Int) := by omega
          obtain ⟨x, hx⟩ : ∃ x : UInt8, fb[i] = x := ⟨_, rfl⟩
          have hxl : fb.data.toList[i]? = some x := by rw [← hx]; exact Lib.data_getElem? fb i hlt
          have hib : i ≤ 1000 := by have := HFS.out; omega
          by_cases h46 : x = 46
          · subst h46
            have hst := suff_star hlt hxl
            obtain ⟨sx, hsx⟩ : ∃ sx, fb.extract i fb.size = sx := ⟨_, rfl⟩
            have hsz : sx.size ≤ 1000 := by rw [← hsx]; simp; have := HFS.out; omega
            rw [hsx] at hst
            obtain ⟨q2, hq2⟩ : ∃ q2, hasL (l.take 60) (suffB fb i) = q2 := ⟨_, rfl⟩
            have HQ2 := Lib.hid hq2
            have HH := Lib.hid (HHAS.out w8 K8.out (suffB fb i))
            rw [hq2, ← hst] at HH
            have HST := Lib.hid hst
            have HXL := Lib.hid hxl
            clear hq2 hst hxl
            cases q2 with
            | true =>
              obtain ⟨y, hy1, hy2⟩ := findT_at hlt HXL.out HU.out HQ2.out
              have ho := HO2.out.symm.trans hy1
              have h1 := HX.out
              rw [ho] at h1
              have h2 := HP1.out
              rw [ho] at h2
              have h1' : y = ⟨xn, xd, xa, xp⟩ := h1
              subst h1'
              have h2' : true = p1 := h2
              subst h2'
              have hy2' : xn = ⟨#[42]⟩ ++ sx := by rw [HST.out]; exact hy2
              subst hy2'
              have hc8 := HC8.out
              have HWK8 := Lib.hid (HWK.out _ (K2.out.trans K8.out).drew')
              have HKD := Lib.hid (K2.out.trans K8.out).drew'
              clear ho h1 h2 hy1 hy2
              go_wp2_with fail
              refine HH.out.mono ?_
              rintro e wa ⟨rfl, h9⟩
              obtain rfl := h9.symm
              go_wp2_with fail
              have hcat : ∀ W : World, (Op.stringOp .add (⟨#[42]⟩ : ByteArray) sx).run Tryd.prog W = .ok (.string (⟨#[42]⟩ ++ sx)) W := fun W => Go.run_string_add_sum W _ _ (by have : (⟨#[42]⟩ : ByteArray).size = 1 := rfl; omega)
              have HC8d := Lib.hid (show w8.drew.cell? ⟨nb, 0, none⟩ = some (.string (⟨#[42]⟩ ++ sx)) from HC8.out)
              go_region_held3 (fun w' => w'.cell? ⟨nb, 0, none⟩ = some (.string (⟨#[42]⟩ ++ sx)) ∧ Keeps [] w w')
                (first | exact ⟨HC8d.out, HKD.out⟩ | exact ⟨HCA.out, HKA.out⟩)
                (first | (go_at_call 10; refine HWK8.out.mono ?_; rintro e wa ⟨rfl, ka⟩; have HCA := Lib.hid (cell_keeps ka HC8d.out (by simp)); have HKA := Lib.hid (HKD.out.trans ka); clear ka))
              go_wp2_with fail
              go_ret
              exact ⟨by simp, HKA.out⟩
            | false =>
              have HUN := Lib.hid (up_dot HXL.out HU.out HQ2.out)
              go_wp2_with fail
              refine HH.out.mono ?_
              rintro e wa ⟨rfl, h9⟩
              obtain rfl := h9.symm
              go_wp2_with fail
              exact ⟨⟨i + 1, by simp, by omega, trivial, HUN⟩, by simp [intOf]; omega⟩
          · have hx46 : ¬ (x.toNat : Int) = 46 := by
              intro e
              apply h46
              apply UInt8.toNat_inj.1
              have : x.toNat = 46 := by omega
              rw [this]; rfl
            have HUN := Lib.hid (up_no (by rw [hxl]; intro e; injection e with e; exact h46 e) HU.out)
            clear hxl h46
            go_wp2_with fail
            exact ⟨⟨i + 1, by simp, by omega, trivial, HUN⟩, by simp [intOf]; omega⟩
        · obtain rfl : i = fb.size := by omega
          have hlt' : ¬ (fb.size : Int) < (fb.size : Int) := by omega
          have hl := findT_last HU.out
          rw [HO2.out, HX.out, HP1.out] at hl
          obtain rfl : xn = ⟨#[]⟩ := hl.2
          have HH := HHAS.out w8 K8.out ⟨#[]⟩
          rw [← hl.1] at HH
          have HHH := Lib.hid HH
          have hc8 := HC8.out
          clear hl HH
          go_wp2_with fail
          refine HHH.out.mono ?_
          rintro e wb ⟨rfl, h9⟩
          obtain rfl := h9.symm
          go_wp2_with fail
          refine (HWK.out _ (K2.out.trans K8.out)).mono ?_
          rintro e wa ⟨rfl, ka⟩
          have KA := Lib.hid ((K2.out.trans K8.out).trans ka)
          clear ka
          go_wp2_with fail
          go_ret
          exact ⟨by simp, KA.out⟩
theorem names_walk (w : World) (hw : LW w) (c : PC) (r : PCR) (A : Option Addr) (n k : Nat) (l : List PR) (hn : l.length = n) (hl : RulesAt w A l) (hnk : n ≤ k) (name : ByteArray) :
    Calls Tryd.prog 5 #[cfgV c r, .slice A n k, .string name] w fun e w' => e = .returned (.bool true) ∧ Keeps [] w w' := by
  cases hz : mayL c (l.take 60) with
  | false => exact pn_bad w hw c r A n k l hn hl hnk name hz
  | true =>
    by_cases h : 300 < name.size
    · exact pn_long w hw c r A n k l hn hl hnk name hz h
    · exact pn_ok w hw c r A n k l hn hl hnk name hz h
set_option maxRecDepth 100000 in
theorem policyNames_typed {H : Type} (enc : TypeId × Value → H) (W : World) (base : Nat) {v0 v1 v2 : Value} {d0 d1 d2 : DataW H} {p0 p1 p2 : List MemPlace}
    (o0 : Value.okWide Tryd.prog W .any base 29 v0) (o1 : Value.okWide Tryd.prog W .any base 26 v1) (o2 : Value.okWide Tryd.prog W .any base 9 v2)
    (h0 : DataW.Trod enc Tryd.prog W 0 (fun _ => true) true 29 v0 d0 p0) (h1 : DataW.Trod enc Tryd.prog W 0 (fun _ => true) true 26 v1 d1 p1) (h2 : DataW.Trod enc Tryd.prog W 0 (fun _ => true) true 9 v2 d2 p2) (hL : LW W) :
    Calls Tryd.prog 5 #[v0, v1, v2] W fun e W' => e = .returned (.bool true) ∧ Below W.heap.size W W' := by
  obtain ⟨c, r, rfl⟩ := open_config o0 h0
  obtain ⟨A, n, k, l, rfl, hn, hl, hnk, hk⟩ := open_rules o1 h1
  obtain ⟨s, rfl, _, _, hs⟩ := Go.ChangeMaps.open_string Tryd.underlying9 o2 h2
  exact (names_walk W hL c r A n k l hn hl hnk s).mono fun E W' ⟨he, k⟩ => ⟨he, k.below (Nat.le_refl _) (by simp)⟩
end Go.Proofs.YtbmkdnkiojapbaaDoor

