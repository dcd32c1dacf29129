/-
  The walk of the law PolicySuffix. Condition: the library's tables lie as the row lists them; the arguments are in the ranges of their kinds.
-/
import Derived.Test.YtbmkdnkiojapbaaDoorPolS
import Derived.Test.YtbmkdnkiojapbaaDoorPolA
namespace Go.Proofs.YtbmkdnkiojapbaaDoor
open Go.RowKit Go.ChangeShapes Go.WideShapes Go.ChangeAt Go.Joins Go.Lib
set_option linter.unusedVariables false
set_option linter.unusedSimpArgs false

theorem wp_rel {P : Program} {c : Code} {Q : Exit → Act → World → Prop} {a : Act} {w : World} (R : Act → Act → World → Prop) (h : c.wp P (fun e a' w' => e = .normal ∧ R a a' w') a w) (hq : ∀ a' w', R a a' w' → Q .normal a' w') : c.wp P Q a w :=
  Go.wp_mono h fun e a' w' ⟨he, hr⟩ => by subst he; exact hq a' w' hr

set_option maxRecDepth 100000 in
set_option maxHeartbeats 8000000 in
theorem ps_no (w : World) (hw : LW w) (c : PC) (r : PCR) (A : Option Addr) (n k : Nat) (l : List PR) (hn : l.length = n) (hnk : n ≤ k) (name : ByteArray) (A2 : Option Addr) (n2 k2 : Nat) (hz : foldIs name = false) :
    Calls Tryd.prog 3 #[cfgV c r, .slice A n k, .string name, .slice A2 n2 k2] w fun e w' => e = .returned (.bool true) ∧ Keeps [] w w' := by
  obtain ⟨CS, hCS⟩ : ∃ CS : List Value, CS = [.int .u32 c.inside, .int .u32 c.mask, .int .u32 c.outer, .int .u16 r.lo, .int .u16 r.hi, .int .u64 r.qu, .int .i64 r.fl, .slice r.wa r.wn r.wc, .int .i64 r.sn, .int .u16 r.ms, .int .i64 r.sc, .bool r.sk, .int .u64 r.ky, .slice r.ra r.rn r.rc, .slice r.fa r.fn r.fc, .int .u64 r.rt, .int .i64 r.tr, .int .u64 r.dl, .int .u64 r.wt] := ⟨_, rfl⟩
  have hcv : cfgV c r = .agg CS.toArray := by rw [hCS]; rfl
  obtain ⟨m, hm⟩ : ∃ m, (l.take 60).length = m := ⟨_, rfl⟩
  have hm1 : min (n : Int) 60 = m := by rw [← hm, ← hn]; simp; omega
  have hm2 : (m : Int) ≤ k := by omega
  have hm3 : (0 : Int) ≤ m := by omega
  have K1 := Lib.hid (Keeps.alloc [] w (.cells CS.toArray 29))
  rw [hcv]
  have HWK := Lib.hid (fun (W : World) (kz : Keeps [] w W) => wakes_any W (hw.keep0 kz))
  have HFO := Lib.hid (fun (W : World) (kz : Keeps [] w W) => fold_any W (hw.keep0 kz) name)
  rw [hz] at HFO
  clear hw hn hm hcv hCS hz
  go_enter Tryd.func3, Tryd.ntmps3
  go_wp2_with fail
  refine (HFO.out _ K1.out).mono ?_
  rintro e w2 ⟨rfl, k2⟩
  have K2 := Lib.hid (K1.out.trans k2)
  clear k2
  go_wp2_with fail
  refine (HWK.out _ K2.out).mono ?_
  rintro e w3 ⟨rfl, k3⟩
  have K3 := Lib.hid (K2.out.trans k3)
  clear k3
  go_wp2_with fail
  go_ret
  exact ⟨rfl, K3.out⟩
set_option maxRecDepth 100000 in
set_option maxHeartbeats 8000000 in
theorem ps_long (w : World) (hw : LW w) (c : PC) (r : PCR) (A : Option Addr) (n k : Nat) (l : List PR) (hn : l.length = n) (hnk : n ≤ k) (name : ByteArray) (A2 : Option Addr) (n2 k2 : Nat) (hz : foldIs name = true) (hl1 : 100 < (foldB name).size) :
    Calls Tryd.prog 3 #[cfgV c r, .slice A n k, .string name, .slice A2 n2 k2] w fun e w' => e = .returned (.bool true) ∧ Keeps [] w w' := by
  obtain ⟨CS, hCS⟩ : ∃ CS : List Value, CS = [.int .u32 c.inside, .int .u32 c.mask, .int .u32 c.outer, .int .u16 r.lo, .int .u16 r.hi, .int .u64 r.qu, .int .i64 r.fl, .slice r.wa r.wn r.wc, .int .i64 r.sn, .int .u16 r.ms, .int .i64 r.sc, .bool r.sk, .int .u64 r.ky, .slice r.ra r.rn r.rc, .slice r.fa r.fn r.fc, .int .u64 r.rt, .int .i64 r.tr, .int .u64 r.dl, .int .u64 r.wt] := ⟨_, rfl⟩
  have hcv : cfgV c r = .agg CS.toArray := by rw [hCS]; rfl
  obtain ⟨m, hm⟩ : ∃ m, (l.take 60).length = m := ⟨_, rfl⟩
  have hm1 : min (n : Int) 60 = m := by rw [← hm, ← hn]; simp; omega
  have hm2 : (m : Int) ≤ k := by omega
  have hm3 : (0 : Int) ≤ m := by omega
  have K1 := Lib.hid (Keeps.alloc [] w (.cells CS.toArray 29))
  rw [hcv]
  have HWK := Lib.hid (fun (W : World) (kz : Keeps [] w W) => wakes_any W (hw.keep0 kz))
  have HFO := Lib.hid (fun (W : World) (kz : Keeps [] w W) => fold_any W (hw.keep0 kz) name)
  obtain ⟨fb, hfb⟩ : ∃ fb, foldB name = fb := ⟨_, rfl⟩
  rw [hz, hfb] at HFO
  rw [hfb] at hl1
  have hl2 : (100 : Int) < (fb.size : Int) := by omega
  clear hw hn hm hcv hCS hz hl1 hfb
  go_enter Tryd.func3, Tryd.ntmps3
  go_wp2_with fail
  refine (HFO.out _ K1.out).mono ?_
  rintro e w2 ⟨rfl, k2⟩
  have K2 := Lib.hid (K1.out.trans k2)
  clear k2
  go_wp2_with fail
  refine (HWK.out _ K2.out).mono ?_
  rintro e w3 ⟨rfl, k3⟩
  have K3 := Lib.hid (K2.out.trans k3)
  clear k3
  go_wp2_with fail
  go_ret
  exact ⟨rfl, K3.out⟩
set_option maxRecDepth 100000 in
set_option maxHeartbeats 8000000 in
theorem ps_many (w : World) (hw : LW w) (c : PC) (r : PCR) (A : Option Addr) (n k : Nat) (l : List PR) (hn : l.length = n) (hnk : n ≤ k) (name : ByteArray) (A2 : Option Addr) (n2 k2 : Nat) (hz : foldIs name = true) (hl1 : ¬ 100 < (foldB name).size) (hl3 : 6 < n2) :
    Calls Tryd.prog 3 #[cfgV c r, .slice A n k, .string name, .slice A2 n2 k2] w fun e w' => e = .returned (.bool true) ∧ Keeps [] w w' := by
  obtain ⟨CS, hCS⟩ : ∃ CS : List Value, CS = [.int .u32 c.inside, .int .u32 c.mask, .int .u32 c.outer, .int .u16 r.lo, .int .u16 r.hi, .int .u64 r.qu, .int .i64 r.fl, .slice r.wa r.wn r.wc, .int .i64 r.sn, .int .u16 r.ms, .int .i64 r.sc, .bool r.sk, .int .u64 r.ky, .slice r.ra r.rn r.rc, .slice r.fa r.fn r.fc, .int .u64 r.rt, .int .i64 r.tr, .int .u64 r.dl, .int .u64 r.wt] := ⟨_, rfl⟩
  have hcv : cfgV c r = .agg CS.toArray := by rw [hCS]; rfl
  obtain ⟨m, hm⟩ : ∃ m, (l.take 60).length = m := ⟨_, rfl⟩
  have hm1 : min (n : Int) 60 = m := by rw [← hm, ← hn]; simp; omega
  have hm2 : (m : Int) ≤ k := by omega
  have hm3 : (0 : Int) ≤ m := by omega
  have K1 := Lib.hid (Keeps.alloc [] w (.cells CS.toArray 29))
  rw [hcv]
  have HWK := Lib.hid (fun (W : World) (kz : Keeps [] w W) => wakes_any W (hw.keep0 kz))
  have HFO := Lib.hid (fun (W : World) (kz : Keeps [] w W) => fold_any W (hw.keep0 kz) name)
  obtain ⟨fb, hfb⟩ : ∃ fb, foldB name = fb := ⟨_, rfl⟩
  rw [hz, hfb] at HFO
  rw [hfb] at hl1
  have hl2 : ¬ (100 : Int) < (fb.size : Int) := by omega
  have hl4 : (6 : Int) < (n2 : Int) := by omega
  clear hw hn hm hcv hCS hz hl1 hfb hl3
  go_enter Tryd.func3, Tryd.ntmps3
  go_wp2_with fail
  refine (HFO.out _ K1.out).mono ?_
  rintro e w2 ⟨rfl, k2⟩
  have K2 := Lib.hid (K1.out.trans k2)
  clear k2
  go_wp2_with fail
  refine (HWK.out _ K2.out).mono ?_
  rintro e w3 ⟨rfl, k3⟩
  have K3 := Lib.hid (K2.out.trans k3)
  clear k3
  go_wp2_with fail
  go_ret
  exact ⟨rfl, K3.out⟩
set_option maxRecDepth 100000 in
set_option maxHeartbeats 8000000 in
theorem ps_main (w : World) (hw : LW w) (c : PC) (r : PCR) (A : Option Addr) (n k : Nat) (l : List PR) (hn : l.length = n) (hl : RulesAt w A l) (hnk : n ≤ k) (name : ByteArray) (A2 : Option Addr) (n2 k2 : Nat) (zs : List ByteArray) (hzn : zs.length = n2) (hzs : StrsAt w A2 zs) (hz : foldIs name = true) (hl1 : ¬ 100 < (foldB name).size) (hl3 : ¬ 6 < n2) :
    Calls Tryd.prog 3 #[cfgV c r, .slice A n k, .string name, .slice A2 n2 k2] w fun e w' => e = .returned (.bool true) ∧ Keeps [] w w' := by
  obtain ⟨CS, hCS⟩ : ∃ CS : List Value, CS = [.int .u32 c.inside, .int .u32 c.mask, .int .u32 c.outer, .int .u16 r.lo, .int .u16 r.hi, .int .u64 r.qu, .int .i64 r.fl, .slice r.wa r.wn r.wc, .int .i64 r.sn, .int .u16 r.ms, .int .i64 r.sc, .bool r.sk, .int .u64 r.ky, .slice r.ra r.rn r.rc, .slice r.fa r.fn r.fc, .int .u64 r.rt, .int .i64 r.tr, .int .u64 r.dl, .int .u64 r.wt] := ⟨_, rfl⟩
  have hcv : cfgV c r = .agg CS.toArray := by rw [hCS]; rfl
  obtain ⟨L, hL⟩ : ∃ L, l.take 60 = L := ⟨_, rfl⟩
  obtain ⟨m, hm⟩ : ∃ m, L.length = m := ⟨_, rfl⟩
  have hm1 : min (n : Int) 60 = m := by rw [← hm, ← hn, ← hL]; simp; omega
  have hm2 : (m : Int) ≤ k := by omega
  have hm3 : (0 : Int) ≤ m := by omega
  have hm60 : m ≤ 60 := by omega
  have HM60 := Lib.hid hm60
  have HM := Lib.hid hm
  have HCL := Lib.hid (show CS.length = 19 by rw [hCS]; rfl)
  have HRB := Lib.hid (fun (W : World) (kz : Keeps [] (w.alloc (.cells CS.toArray 29)) W) => rangeAt_keeps kz (range_box w CS 29) (by simp))
  have K1 := Lib.hid (Keeps.alloc [] w (.cells CS.toArray 29))
  rw [hcv]
  have hLR : RulesAt w A L := by rw [← hL]; exact hl.take 60
  have HL := Lib.hid (fun (W : World) (kz : Keeps [] w W) => hLR.keep0 kz)
  have HZS := Lib.hid hzs
  have HZN := Lib.hid hzn
  have HLW := Lib.hid (fun (W : World) (kz : Keeps [] w W) => hw.keep0 kz)
  have HWK := Lib.hid (fun (W : World) (kz : Keeps [] w W) => wakes_any W (hw.keep0 kz))
  have HFO := Lib.hid (fun (W : World) (kz : Keeps [] w W) => fold_any W (hw.keep0 kz) name)
  have HFI := Lib.hid (fold_fine hz)
  have HMAY := Lib.hid (fun (W : World) (kz : Keeps [] w W) (B : Option Addr) (i j : Nat) (ll : List PR) => may_any W (hw.keep0 kz) c r B i j ll)
  have HNEW := Lib.hid (fun (W : World) (kz : Keeps [] w W) (B : Option Addr) (i j : Nat) (ll : List PR) => new_ok W (hw.keep0 kz) c r B i j ll)
  rw [hcv] at HMAY HNEW
  obtain ⟨fb, hfb⟩ : ∃ fb, foldB name = fb := ⟨_, rfl⟩
  rw [hfb] at hl1 HFI
  rw [hz, hfb] at HFO
  have hl2 : ¬ (100 : Int) < (fb.size : Int) := by omega
  have HFS := Lib.hid (show fb.size ≤ 100 by omega)
  have hl4 : ¬ (6 : Int) < (n2 : Int) := by omega
  have HN2 := Lib.hid (show n2 ≤ 6 by omega)
  have hcat : ∀ W : World, (Op.stringOp .add (⟨#[42, 46]⟩ : ByteArray) fb).run Tryd.prog W = .ok (.string (⟨#[42, 46]⟩ ++ fb)) W := fun W => Go.run_string_add_sum W _ _ (by have : (⟨#[42, 46]⟩ : ByteArray).size = 2 := rfl; omega)
  clear hw hn hm hcv hCS hz hl1 hl3 hfb hl hLR hL hzs hzn hm60
  go_enter Tryd.func3, Tryd.ntmps3
  go_wp2_with fail
  refine (HFO.out _ K1.out).mono ?_
  rintro e w2 ⟨rfl, k2⟩
  have K2 := Lib.hid (K1.out.trans k2)
  have K2B := Lib.hid k2
  clear k2
  go_wp2_with fail
  refine wp_gn fun w5 hw5 => ?_
  obtain ⟨rb, hrb⟩ : ∃ rb, w2.heap.size = rb := ⟨_, rfl⟩
  have hb5 : w5.heap[rb]? = some (.cells #[.string (⟨#[42, 46]⟩ ++ fb), .bool true, .int .u32 0, .int .u16 0] 35 (0, 0)) := by rw [hw5, ← hrb]; exact (MapKept.heap_alloc w2 _).1
  have k5 : Keeps [] w2 w5 := by rw [hw5]; exact Keeps.alloc [] w2 _
  have K5B := Lib.hid (K2B.out.trans k5)
  have K5 := Lib.hid (K2.out.trans k5)
  have HB5 := Lib.hid hb5
  have HRG5 := Lib.hid (show w5.rangeAt rb 0 [.string (⟨#[42, 46]⟩ ++ fb), .bool true, .int .u32 0, .int .u16 0] from fun j v hj => by
    have e0 := cell_of_block hb5 (0 + j)
    rw [e0]
    simpa using hj)
  rw [hrb]
  clear hb5 k5 hw5 hrb
  refine wp_rel (R := fun a a' w' => ∃ A1 c1 bb B c6, a' = (((((a.put (some 52) (.slice A m k)).put (some 53) (.slice A1 m c1)).put (some 54) (.agg #[.string (⟨#[42, 46]⟩ ++ fb), .bool true, .int .u32 0, .int .u16 0])).put (some 55) (.slice (some ⟨bb, 0, none⟩) 1 1)).put (some 56) (.slice B (m + 1) c6)).put (some 12) (.slice B (m + 1) c6) ∧ RulesAt w' B (L ++ [starR fb]) ∧ m + 1 ≤ c6 ∧ Keeps [] w5 w') ?reg ?rest
  case reg =>
    refine wp_region_held_drew (S := fun W => Keeps [] w5 W) (by kernel_rfl) ?hS0 (fun hHeld => ?_)
    case hS0 => exact (Keeps.refl [] _).drew'
    refine wpAnyH_take (i := 0) (oi := _) (v := ?v0) rfl (by kernel_rfl) (by kernel_rfl) (by kernel_rfl) (fun _ _ _ h => absurd h.1 (by simp)) (Or.inl ⟨by rfl, ?hy0⟩) (by assumption) ?rest0
    case hy0 => (intro w hSw; (try dsimp only at hSw); go_simp; try (with_reducible rfl))
    try simp only [List.getElem_toArray, List.getElem_cons_zero, List.getElem_cons_succ, Act.put, List.setIfInBounds_toArray, List.set_cons_zero, List.set_cons_succ]
    refine wpAnyH_take (i := 2) (oi := _) (v := .agg #[.string (⟨#[42, 46]⟩ ++ fb), .bool true, .int .u32 0, .int .u16 0]) rfl (by kernel_rfl) (by kernel_rfl) (by kernel_rfl) (fun _ _ _ h => absurd h.1 (by simp))
      (yieldsIf_load_mid (by rfl) 35 (.tmp 11) rfl rb 0 rfl [.string (⟨#[42, 46]⟩ ++ fb), .bool true, .int .u32 0, .int .u16 0] _ (fun W h => rangeAt_keeps h HRG5.out (by simp)) Tryd.underlying35 rfl (by kernel_rfl)) (by assumption) ?_
    try simp only [List.getElem_toArray, List.getElem_cons_zero, List.getElem_cons_succ, Act.put, List.setIfInBounds_toArray, List.set_cons_zero, List.set_cons_succ]
    refine wpAnyH_ready (rs := [1, 3]) (by kernel_rfl) (by simp) ?_
    refine AllReadyH.cons (o := _) rfl (fun K hK => ?ord1) (AllReadyH.cons (o := _) rfl (fun K hK => ?ord2) AllReadyH.nil)
    case ord1 =>
      try simp only [List.getElem_toArray, List.getElem_cons_zero, List.getElem_cons_succ, Act.put, List.setIfInBounds_toArray, List.set_cons_zero, List.set_cons_succ]
      rw [if_pos (by simp [Region.wanted])]
      refine step_append_R (w0 := w5) (.const (.slice none 0 0)) (.tmp 52) 26 rfl Tryd.underlying26 (.slice none 0 0) [] (by rfl) (OwnR.nil _ _) A m k L (by rfl) HM.out (HL.out _ (K5.out.drew')) (by simp; have := HM60.out; omega) ((Keeps.refl [] _).drew') ?_
      intro v1 w6 own1 g6 k6
      rw [List.nil_append] at own1
      obtain ⟨A1, c1, rfl, hr1, hc1, hmx⟩ := own1.rules
      rw [HM.out] at hc1 own1 ⊢
      refine hK.out _ _ k6 (fun hHeld2 => ?_)
      clear hK K
      try simp only [List.getElem_toArray, List.getElem_cons_zero, List.getElem_cons_succ, Act.put, List.setIfInBounds_toArray, List.set_cons_zero, List.set_cons_succ]
      refine wpAnyH_ready (rs := [3]) (by kernel_rfl) (by simp) ?_
      refine AllReadyH.cons (o := _) rfl (fun K hK => ?_) AllReadyH.nil
      try simp only [List.getElem_toArray, List.getElem_cons_zero, List.getElem_cons_succ, Act.put, List.setIfInBounds_toArray, List.set_cons_zero, List.set_cons_succ]
      go_simp
      refine hK.out _ _ (k6.alloc' _) (fun hHeld3 => ?_)
      clear hK K
      try simp only [List.getElem_toArray, List.getElem_cons_zero, List.getElem_cons_succ, Act.put, List.setIfInBounds_toArray, List.set_cons_zero, List.set_cons_succ]
      refine wpAnyH_ready (rs := [4]) (by kernel_rfl) (by simp) ?_
      refine AllReadyH.cons (o := _) rfl (fun K hK => ?_) AllReadyH.nil
      try simp only [List.getElem_toArray, List.getElem_cons_zero, List.getElem_cons_succ, Act.put, List.setIfInBounds_toArray, List.set_cons_zero, List.set_cons_succ]
      rw [if_pos (by simp [Region.wanted])]
      refine step_append_R (w0 := w5) (.tmp 53) (.tmp 55) 26 rfl Tryd.underlying26 (.slice A1 m c1) L (by rfl) (own1.alloc _) _ 1 1 [starR fb] (by rfl) rfl (rules_one (MapKept.heap_alloc w6 _).1) (by rw [HM.out]; have := HM60.out; omega) (k6.alloc' _) ?_
      intro v2 w7 own2 _ k7
      obtain ⟨B, c6, rfl, hr2, hc2, hmy⟩ := own2.rules
      have hlen : (L ++ [starR fb]).length = m + 1 := by rw [List.length_append, HM.out]; rfl
      rw [hlen] at hc2 ⊢
      refine hK.out _ _ k7 (fun hHeld4 => ?_)
      clear hK K
      try simp only [List.getElem_toArray, List.getElem_cons_zero, List.getElem_cons_succ, Act.put, List.setIfInBounds_toArray, List.set_cons_zero, List.set_cons_succ]
      refine wpAnyH_take (i := 5) (oi := _) (v := ?v5a) rfl (by kernel_rfl) (by kernel_rfl) (by kernel_rfl) (fun _ _ _ h => absurd h.1 (by simp)) (Or.inl ⟨by rfl, ?hy5a⟩) (by assumption) ?rest5a
      case hy5a => (intro w hSw; (try dsimp only at hSw); go_simp; try (with_reducible rfl))
      try simp only [List.getElem_toArray, List.getElem_cons_zero, List.getElem_cons_succ, Act.put, List.setIfInBounds_toArray, List.set_cons_zero, List.set_cons_succ]
      refine wpAnyH_done (by kernel_rfl) ?_ _
      refine ⟨rfl, A1, c1, w6.heap.size, B, c6, ?_, hr2, hc2, k7⟩
      rfl
    case ord2 =>
      try simp only [List.getElem_toArray, List.getElem_cons_zero, List.getElem_cons_succ, Act.put, List.setIfInBounds_toArray, List.set_cons_zero, List.set_cons_succ]
      go_simp
      refine hK.out _ _ (Keeps.alloc [] w5 _).drew' (fun hHeld2 => ?_)
      clear hK K
      try simp only [List.getElem_toArray, List.getElem_cons_zero, List.getElem_cons_succ, Act.put, List.setIfInBounds_toArray, List.set_cons_zero, List.set_cons_succ]
      refine wpAnyH_ready (rs := [1]) (by kernel_rfl) (by simp) ?_
      refine AllReadyH.cons (o := _) rfl (fun K hK => ?_) AllReadyH.nil
      try simp only [List.getElem_toArray, List.getElem_cons_zero, List.getElem_cons_succ, Act.put, List.setIfInBounds_toArray, List.set_cons_zero, List.set_cons_succ]
      rw [if_pos (by simp [Region.wanted])]
      refine step_append_R (w0 := w5) (.const (.slice none 0 0)) (.tmp 52) 26 rfl Tryd.underlying26 (.slice none 0 0) [] (by rfl) (OwnR.nil _ _) A m k L (by rfl) HM.out (HL.out _ (K5.out.trans (Keeps.alloc [] w5 _).drew')) (by simp; have := HM60.out; omega) (Keeps.alloc [] w5 _).drew' ?_
      intro v1 w6 own1 g6 k6
      rw [List.nil_append] at own1
      obtain ⟨A1, c1, rfl, hr1, hc1, hmx⟩ := own1.rules
      rw [HM.out] at hc1 own1 ⊢
      refine hK.out _ _ k6 (fun hHeld2 => ?_)
      clear hK K
      try simp only [List.getElem_toArray, List.getElem_cons_zero, List.getElem_cons_succ, Act.put, List.setIfInBounds_toArray, List.set_cons_zero, List.set_cons_succ]
      refine wpAnyH_ready (rs := [4]) (by kernel_rfl) (by simp) ?_
      refine AllReadyH.cons (o := _) rfl (fun K hK => ?_) AllReadyH.nil
      try simp only [List.getElem_toArray, List.getElem_cons_zero, List.getElem_cons_succ, Act.put, List.setIfInBounds_toArray, List.set_cons_zero, List.set_cons_succ]
      rw [if_pos (by simp [Region.wanted])]
      refine step_append_R (w0 := w5) (.tmp 53) (.tmp 55) 26 rfl Tryd.underlying26 (.slice A1 m c1) L (by rfl) own1 _ 1 1 [starR fb] (by rfl) rfl (rules_one ((g6.block _ (by simp) (by simp [Value.ownBlock])).trans (MapKept.heap_alloc w5 _).1)) (by rw [HM.out]; have := HM60.out; omega) k6 ?_
      intro v2 w7 own2 _ k7
      obtain ⟨B, c6, rfl, hr2, hc2, hmy⟩ := own2.rules
      have hlen : (L ++ [starR fb]).length = m + 1 := by rw [List.length_append, HM.out]; rfl
      rw [hlen] at hc2 ⊢
      refine hK.out _ _ k7 (fun hHeld4 => ?_)
      clear hK K
      try simp only [List.getElem_toArray, List.getElem_cons_zero, List.getElem_cons_succ, Act.put, List.setIfInBounds_toArray, List.set_cons_zero, List.set_cons_succ]
      refine wpAnyH_take (i := 5) (oi := _) (v := ?v5b) rfl (by kernel_rfl) (by kernel_rfl) (by kernel_rfl) (fun _ _ _ h => absurd h.1 (by simp)) (Or.inl ⟨by rfl, ?hy5b⟩) (by assumption) ?rest5b
      case hy5b => (intro w hSw; (try dsimp only at hSw); go_simp; try (with_reducible rfl))
      try simp only [List.getElem_toArray, List.getElem_cons_zero, List.getElem_cons_succ, Act.put, List.setIfInBounds_toArray, List.set_cons_zero, List.set_cons_succ]
      refine wpAnyH_done (by kernel_rfl) ?_ _
      refine ⟨rfl, A1, c1, w5.heap.size, B, c6, ?_, hr2, hc2, k7⟩
      rfl
  case rest =>
    rintro a' w6 ⟨A1, c1, bb, B, c6, rfl, hr6, hc6, k6⟩
    have K6B := Lib.hid (K5B.out.trans k6)
    have K6 := Lib.hid (K5.out.trans k6)
    have HR6 := Lib.hid hr6
    have HB6 := Lib.hid ((k6.block rb (lt_of_block HB5.out) (by simp)).trans HB5.out)
    have hc6' : (m + 1 : Int) ≤ c6 := by omega
    have HLEN := Lib.hid (show (L ++ [starR fb]).length = m + 1 by rw [List.length_append, HM.out]; rfl)
    clear hr6 k6 HB5 HRG5 K5 K5B K2B K2
    simp only [Act.put, List.setIfInBounds_toArray, List.set_cons_zero, List.set_cons_succ]
    obtain ⟨z1, hz1⟩ : ∃ z1, mayL c L = z1 := ⟨_, rfl⟩
    have HM1 := Lib.hid (HMAY.out w6 K6.out A m k L HM.out (HL.out _ K6.out) (by have := HM60.out; omega))
    rw [hz1] at HM1
    have HZ1 := Lib.hid hz1
    clear hz1
    go_wp2_with (refine wpList_load_want 29 (.tmp 4) rfl (by simp [Region.wanted, yielded]) w.heap.size 0 rfl _ _ (HRB.out _ K6B.out) Tryd.underlying29 rfl (by rw [HCL.out]; kernel_rfl) ?_)
    refine HM1.out.mono ?_
    clear HM1
    rintro e w7 ⟨rfl, k7⟩
    have K7B := Lib.hid (K6B.out.trans k7)
    have K7 := Lib.hid (K6.out.trans k7)
    have HR7 := Lib.hid (HR6.out.keep0 k7)
    have HB7 := Lib.hid ((k7.block rb (lt_of_block HB6.out) (by simp)).trans HB6.out)
    clear k7 HR6 HB6 K6 K6B
    cases z1 with
    | false =>
      go_wp2_with fail
      refine (HWK.out _ K7.out).mono ?_
      rintro e w8 ⟨rfl, k8⟩
      have K8 := Lib.hid (K7.out.trans k8)
      clear k8
      go_wp2_with fail
      go_ret
      exact ⟨rfl, K8.out⟩
    | true =>
      obtain ⟨z2, hz2⟩ : ∃ z2, mayL c (L ++ [starR fb]) = z2 := ⟨_, rfl⟩
      have HM2 := Lib.hid (HMAY.out w7 K7.out B (m + 1) c6 (L ++ [starR fb]) HLEN.out HR7.out (by have := HM60.out; omega))
      rw [hz2] at HM2
      have HZ2 := Lib.hid hz2
      clear hz2
      go_wp2_with (refine wpList_load_want 29 (.tmp 4) rfl (by simp [Region.wanted, yielded]) w.heap.size 0 rfl _ _ (HRB.out _ K7B.out) Tryd.underlying29 rfl (by rw [HCL.out]; kernel_rfl) ?_)
      refine HM2.out.mono ?_
      clear HM2
      rintro e w8 ⟨rfl, k8⟩
      have K8B := Lib.hid (K7B.out.trans k8)
      have K8 := Lib.hid (K7.out.trans k8)
      have HR8 := Lib.hid (HR7.out.keep0 k8)
      have HB8 := Lib.hid ((k8.block rb (lt_of_block HB7.out) (by simp)).trans HB7.out)
      clear k8 HR7 HB7 K7 K7B
      cases z2 with
      | false =>
        go_wp2_with fail
        refine (HWK.out _ K8.out).mono ?_
        rintro e w9 ⟨rfl, k9⟩
        have K9 := Lib.hid (K8.out.trans k9)
        clear k9
        go_wp2_with fail
        go_ret
        exact ⟨rfl, K9.out⟩
      | true =>
        go_wp2_with (refine wpList_load_want 29 (.tmp 4) rfl (by simp [Region.wanted, yielded]) w.heap.size 0 rfl _ _ (HRB.out _ K8B.out) Tryd.underlying29 rfl (by rw [HCL.out]; kernel_rfl) ?_)
        refine (HNEW.out w8 K8.out A m k L HM.out (HL.out _ K8.out) (by have := HM60.out; omega) HZ1.out).mono ?_
        rintro e w9 ⟨tb, mb, rfl, ht9, k9, hs1, hs2⟩
        have K9B := Lib.hid (K8B.out.trans k9)
        have K9 := Lib.hid (K8.out.trans k9)
        have HR9 := Lib.hid (HR8.out.keep0 k9)
        have HB9 := Lib.hid ((k9.block rb (lt_of_block HB8.out) (by simp)).trans HB8.out)
        have HT9 := Lib.hid ht9
        clear k9 HR8 HB8 K8 K8B hs1 hs2 ht9
        go_wp2_with (refine wpList_load_want 29 (.tmp 4) rfl (by simp [Region.wanted, yielded]) w.heap.size 0 rfl _ _ (HRB.out _ K9B.out) Tryd.underlying29 rfl (by rw [HCL.out]; kernel_rfl) ?_)
        refine (HNEW.out w9 K9.out B (m + 1) c6 (L ++ [starR fb]) HLEN.out HR9.out (by have := HM60.out; omega) HZ2.out).mono ?_
        rintro e wa ⟨ub, vb, rfl, hua, ka, hs1, hs2⟩
        have KA := Lib.hid (K9.out.trans ka)
        have HBA := Lib.hid ((ka.block rb (lt_of_block HB9.out) (by simp)).trans HB9.out)
        have HTA := Lib.hid (HT9.out.keep0 ka)
        have HUA := Lib.hid hua
        clear ka HR9 HB9 K9 K9B HT9 hua
        go_wp2_with fail
        obtain ⟨sn, hsn⟩ : ∃ sn, (⟨#[42, 46]⟩ : ByteArray) ++ fb = sn := ⟨_, rfl⟩
        have hsz : sn.size = fb.size + 2 := by rw [← hsn]; exact star_size fb
        rw [hsn] at HBA
        have hsr : starR fb = ⟨sn, true, 0, 0⟩ := by rw [← hsn]; rfl
        obtain ⟨⟨xn, xd, xa, xp⟩, hx⟩ : ∃ x, (findT (tabL L) fb).getD zeroPR = x := ⟨_, rfl⟩
        obtain ⟨p1, hp1⟩ : ∃ p1, (findT (tabL L) fb).isSome = p1 := ⟨_, rfl⟩
        have HF1 := find_any wa (HLW.out _ KA.out) tb mb _ HTA.out fb
        rw [HFI.out.fold.1, hx, hp1] at HF1
        unfold encPR at HF1
        refine HF1.mono ?_
        clear HF1
        rintro e wb ⟨rfl, kb⟩
        have KB := Lib.hid (KA.out.trans kb)
        have HBB := Lib.hid ((kb.block rb (lt_of_block HBA.out) (by simp)).trans HBA.out)
        have HTB := Lib.hid (HTA.out.keep0 kb)
        have HUB := Lib.hid (HUA.out.keep0 kb)
        have HSZ := Lib.hid hsz
        have HSR := Lib.hid hsr
        clear kb HBA HTA HUA KA hsn hsz hsr
        go_wp2_with fail
        refine calls_gn fun wc hwc => ?_
        have kc : Keeps [] wb wc := by rw [hwc]; exact Keeps.alloc [] wb _
        obtain ⟨b7, hb7⟩ : ∃ b7, wb.heap.size = b7 := ⟨_, rfl⟩
        have h7 : wc.heap[b7]? = some (.cells #[.string xn, .bool xd, .int .u32 xa, .int .u16 xp] 35 (0, 0)) := by rw [hwc, ← hb7]; exact (MapKept.heap_alloc wb _).1
        rw [hb7]
        have KC := Lib.hid (KB.out.trans kc)
        have HBC := Lib.hid ((kc.block rb (lt_of_block HBB.out) (by simp)).trans HBB.out)
        have HTC := Lib.hid (HTB.out.keep0 kc)
        have HUC := Lib.hid (HUB.out.keep0 kc)
        have H7 := Lib.hid h7
        have L7 := Lib.hid (show w.heap.size ≤ b7 ∧ rb < b7 ∧ tb < b7 ∧ mb < b7 ∧ ub < b7 ∧ vb < b7 by
          have e1 := KB.out.size
          have e2 := lt_of_block HBB.out
          have e3 := lt_of_block HTB.out.head
          have e4 := HTB.out.map.lt
          have e5 := lt_of_block HUB.out.head
          have e6 := HUB.out.map.lt
          omega)
        clear kc HBB HTB HUB KB h7 hwc hb7
        have HF2 := find_any wc (HLW.out _ KC.out) ub vb _ HUC.out fb
        rw [HFI.out.fold.1, star_own HFI.out HZ2.out, hx, hp1] at HF2
        unfold encPR at HF2
        refine HF2.mono ?_
        clear HF2 hx hp1
        rintro e wd ⟨rfl, kd⟩
        have KD := Lib.hid (KC.out.trans kd)
        have HBD := Lib.hid ((kd.block rb (lt_of_block HBC.out) (by simp)).trans HBC.out)
        have HTD := Lib.hid (HTC.out.keep0 kd)
        have HUD := Lib.hid (HUC.out.keep0 kd)
        have h7d := (kd.block b7 (lt_of_block H7.out) (by simp)).trans H7.out
        have L8 := Lib.hid (Nat.lt_of_lt_of_le (lt_of_block H7.out) kd.size)
        have kx := Keeps.alloc [] wd (.cells #[.string xn, .bool xd, .int .u32 xa, .int .u16 xp] 35)
        have gcx := cell_keeps kx (cell_of_block h7d 0) (by simp)
        have gcd := cell_keeps kx (cell_of_block h7d 1) (by simp)
        have gca := cell_keeps kx (cell_of_block h7d 2) (by simp)
        have gcp := cell_keeps kx (cell_of_block h7d 3) (by simp)
        have H7D := Lib.hid h7d
        clear kx kd HBC HTC HUC KC H7 h7d
        go_wp2_with fail
        refine wp_gn fun we hwe => ?_
        obtain ⟨b9, hb9⟩ : ∃ b9, wd.heap.size = b9 := ⟨_, rfl⟩
        have ke : Keeps [] wd we := by rw [hwe]; exact Keeps.alloc [] wd _
        have h9 : we.heap[b9]? = some (.cells #[.string xn, .bool xd, .int .u32 xa, .int .u16 xp] 35 (0, 0)) := by rw [hwe, ← hb9]; exact (MapKept.heap_alloc wd _).1
        rw [hb9] at L8 ⊢
        have KE := Lib.hid (KD.out.trans ke)
        have HBE := Lib.hid ((ke.block rb (lt_of_block HBD.out) (by simp)).trans HBD.out)
        have HTE := Lib.hid (HTD.out.keep0 ke)
        have HUE := Lib.hid (HUD.out.keep0 ke)
        have h7e := (ke.block b7 (lt_of_block H7D.out) (by simp)).trans H7D.out
        have S0 : ∃ x y : PR, we.heap[b7]? = some (.cells #[.string x.name, .bool x.deny, .int .u32 x.addr, .int .u16 x.port] 35 (0, 0)) ∧ we.heap[b9]? = some (.cells #[.string y.name, .bool y.deny, .int .u32 y.addr, .int .u16 y.port] 35 (0, 0)) := ⟨⟨xn, xd, xa, xp⟩, ⟨xn, xd, xa, xp⟩, h7e, h9⟩
        have HS0 := Lib.hid S0
        clear ke HBD HTD HUD KD H7D hwe h9 h7e gcx gcd gca gcp S0 hb9
        go_loopw [21, 22] (fun lv iv wr => ∃ (i : Nat) (g : ByteArray), iv = .int .i64 i ∧ lv = .string g ∧ i ≤ n2 ∧ Hid (Fine g ∧ g.size ≤ 100 + 21 * i ∧ (g = fb ∨ ∃ q, g.data.toList = q ++ 46 :: fb.data.toList) ∧ Keeps [b7, b9] we wr ∧
          ∃ x y : PR, wr.heap[b7]? = some (.cells #[.string x.name, .bool x.deny, .int .u32 x.addr, .int .u16 x.port] 35 (0, 0)) ∧ wr.heap[b9]? = some (.cells #[.string y.name, .bool y.deny, .int .u32 y.addr, .int .u16 y.port] 35 (0, 0)))) (fun _ iv _ => n2 - (intOf iv).toNat)
        case atStart => exact ⟨0, fb, rfl, rfl, by omega, Lib.hid ⟨HFI.out, HFS.out, .inl rfl, Keeps.refl _ _, HS0.out⟩⟩
        case round =>
          obtain ⟨i, g, rfl, rfl, hi, HI⟩ := hrel
          have KR := Lib.hid HI.out.2.2.2.1
          have KW := Lib.hid (show Keeps [] w wr from ((KE.out.mono (T := [b7, b9]) (by simp)).trans KR.out).fresh (by intro y hy hlt; simp at hy; have := L7.out; have := L8.out; omega))
          by_cases hlt : i < n2
          · have hlt' : (i : Int) < n2 := by omega
            have hi0 : (0 : Int) ≤ i := by omega
            obtain ⟨word, hword⟩ : ∃ word, zs[i]? = some word := ⟨_, List.getElem?_eq_getElem (by rw [HZN.out]; exact hlt)⟩
            have hne : ¬ zs = [] := by rintro rfl; simp at hword
            obtain ⟨ab, ao, rfl, hcs⟩ := HZS.out.resolve_left hne
            have gw := cell_keeps KW.out (hcs i word hword) (by simp)
            obtain ⟨wf, hwf⟩ : ∃ wf, foldB word = wf := ⟨_, rfl⟩
            obtain ⟨wi, hwi⟩ : ∃ wi, foldIs word = wi := ⟨_, rfl⟩
            have HFW := fold_any wr (HLW.out _ KW.out) word
            rw [hwf, hwi] at HFW
            have HFW2 := Lib.hid HFW
            have HWI := Lib.hid hwi
            have HWF := Lib.hid hwf
            clear hcs hne hword HFW hwi hwf
            go_wp2_with fail
            refine HFW2.out.mono ?_
            clear HFW2
            rintro e wg ⟨rfl, kg⟩
            have KG := Lib.hid kg
            have HIG := Lib.hid (show ∃ x y : PR, wg.heap[b7]? = some (.cells #[.string x.name, .bool x.deny, .int .u32 x.addr, .int .u16 x.port] 35 (0, 0)) ∧ wg.heap[b9]? = some (.cells #[.string y.name, .bool y.deny, .int .u32 y.addr, .int .u16 y.port] 35 (0, 0)) from by
              obtain ⟨x, y, hx, hy⟩ := HI.out.2.2.2.2
              exact ⟨x, y, (kg.block b7 (lt_of_block hx) (by simp)).trans hx, (kg.block b9 (lt_of_block hy) (by simp)).trans hy⟩)
            have KRG := Lib.hid (show Keeps [b7, b9] we wg from KR.out.trans (kg.mono (T := [b7, b9]) (by simp)))
            have KWG := Lib.hid (KW.out.trans kg)
            clear kg gw KG KR KW
            cases wi with
            | false =>
              go_wp2_with fail
              exact ⟨⟨i + 1, g, by simp, rfl, by omega, Lib.hid ⟨HI.out.1, by have := HI.out.2.1; omega, HI.out.2.2.1, KRG.out, HIG.out⟩⟩, by simp [intOf]; omega⟩
            | true =>
              by_cases h20 : 20 < wf.size
              · have h20' : (20 : Int) < wf.size := by omega
                go_wp2_with fail
                exact ⟨⟨i + 1, g, by simp, rfl, by omega, Lib.hid ⟨HI.out.1, by have := HI.out.2.1; omega, HI.out.2.2.1, KRG.out, HIG.out⟩⟩, by simp [intOf]; omega⟩
              · have h20' : ¬ (20 : Int) < wf.size := by omega
                have FW : Fine wf := by rw [← HWF.out]; exact fold_fine HWI.out
                have gS := HI.out.2.1
                have n26 := HN2.out
                have fine2 := FW.join HI.out.1 (by omega)
                have size2 : (wf ++ ⟨#[46]⟩ ++ g).size = wf.size + 1 + g.size := by
                  have e1 := size_eq wf
                  have e2 := size_eq g
                  rw [size_eq, data_join, List.length_append, List.length_cons]
                  omega
                have suf2 : ∃ q, (wf ++ ⟨#[46]⟩ ++ g).data.toList = q ++ 46 :: fb.data.toList := by
                  rw [data_join]
                  rcases HI.out.2.2.1 with rfl | ⟨q, hq⟩
                  · exact ⟨_, rfl⟩
                  · exact ⟨wf.data.toList ++ 46 :: q, by rw [hq]; simp⟩
                obtain ⟨w1, hw1⟩ : ∃ w1, wf ++ ⟨#[46]⟩ = w1 := ⟨_, rfl⟩
                have hz1 : w1.size ≤ 1000 := by rw [← hw1]; simp; have : (⟨#[46]⟩ : ByteArray).size = 1 := rfl; omega
                have hz2 : g.size ≤ 1000 := by omega
                have hz3 : wf.size ≤ 1000 := by omega
                rw [hw1] at fine2 size2 suf2
                obtain ⟨g2, hg2⟩ : ∃ g2, w1 ++ g = g2 := ⟨_, rfl⟩
                rw [hg2] at fine2 size2 suf2
                have F2 := Lib.hid fine2
                have SZ2 := Lib.hid (show g2.size ≤ 100 + 21 * (i + 1) by omega)
                have SUF2 := Lib.hid suf2
                have WAYS := Lib.hid (star_long HFI.out fine2 suf2.choose_spec HZ2.out)
                obtain ⟨o1, ho1⟩ : ∃ o1, findT (tabL L) g2 = o1 := ⟨_, rfl⟩
                obtain ⟨o2, ho2⟩ : ∃ o2, findT (tabL (L ++ [starR fb])) g2 = o2 := ⟨_, rfl⟩
                have HTG := Lib.hid (fun (W : World) (kz : Keeps [b7, b9] we W) => HTE.out.keep kz (by have := L7.out; have := L8.out; simp; omega) (by have := L7.out; have := L8.out; simp; omega))
                have HUG := Lib.hid (fun (W : World) (kz : Keeps [b7, b9] we W) => HUE.out.keep kz (by have := L7.out; have := L8.out; simp; omega) (by have := L7.out; have := L8.out; simp; omega))
                obtain ⟨⟨x1n, x1d, x1a, x1p⟩, hx1⟩ : ∃ x, o1.getD zeroPR = x := ⟨_, rfl⟩
                obtain ⟨q1, hq1⟩ : ∃ q1, o1.isSome = q1 := ⟨_, rfl⟩
                obtain ⟨⟨x2n, x2d, x2a, x2p⟩, hx2⟩ : ∃ x, o2.getD zeroPR = x := ⟨_, rfl⟩
                obtain ⟨q2, hq2⟩ : ∃ q2, o2.isSome = q2 := ⟨_, rfl⟩
                have HF1 := Lib.hid (find_any wg (HLW.out _ KWG.out) tb mb _ (HTG.out _ KRG.out) g2)
                have HF2 := Lib.hid (fun (W : World) (kz : Keeps [] w W) (kr : Keeps [b7, b9] we W) => find_any W (HLW.out _ kz) ub vb _ (HUG.out _ kr) g2)
                rw [F2.out.fold.1, ho1, hx1, hq1] at HF1
                rw [F2.out.fold.1, ho2, hx2, hq2] at HF2
                unfold encPR at HF1 HF2
                rw [ho1, ho2] at WAYS
                have HX1 := Lib.hid hx1
                have HX2 := Lib.hid hx2
                have HQ1 := Lib.hid hq1
                have HQ2 := Lib.hid hq2
                clear FW gS n26 fine2 size2 suf2 ho1 ho2 hx1 hx2 hq1 hq2
                go_wp2_with fail
                refine HF1.out.mono ?_
                clear HF1
                rintro e wh ⟨rfl, kh⟩
                have KWH := Lib.hid (KWG.out.trans kh)
                have KRH := Lib.hid (show Keeps [b7, b9] we wh from KRG.out.trans (kh.mono (T := [b7, b9]) (by simp)))
                have HIH := Lib.hid (show ∃ x y : PR, wh.heap[b7]? = some (.cells #[.string x.name, .bool x.deny, .int .u32 x.addr, .int .u16 x.port] 35 (0, 0)) ∧ wh.heap[b9]? = some (.cells #[.string y.name, .bool y.deny, .int .u32 y.addr, .int .u16 y.port] 35 (0, 0)) from by
                  obtain ⟨x, y, hx, hy⟩ := HIG.out
                  exact ⟨x, y, (kh.block b7 (lt_of_block hx) (by simp)).trans hx, (kh.block b9 (lt_of_block hy) (by simp)).trans hy⟩)
                clear kh KWG KRG HIG
                obtain ⟨x0, y0, h70, h90⟩ := HIH.out
                have c0 := cell_of_block h70 0
                have c1 := cell_of_block h70 1
                have c2 := cell_of_block h70 2
                have c3 := cell_of_block h70 3
                have f0 := free_of_block h70 0
                have f1 := free_of_block h70 1
                have f2 := free_of_block h70 2
                have f3 := free_of_block h70 3
                have H70 := Lib.hid h70
                have H90 := Lib.hid h90
                clear h70 h90 HIH
                go_wp2_with fail
                refine calls_gn fun wi hwi => ?_
                obtain ⟨h7i, ki⟩ := rule_set H70.out (.string x1n) (.bool x1d) (.int .u32 x1a) (.int .u16 x1p)
                rw [← hwi] at h7i ki
                have n79 : ¬ b7 = b9 := by have := L8.out; omega
                have n97 : ¬ b9 = b7 := by have := L8.out; omega
                have h9i := (ki.block b9 (lt_of_block H90.out) (by simp; exact n97)).trans H90.out
                have KRI := Lib.hid (show Keeps [b7, b9] we wi from KRH.out.trans (ki.mono (T := [b7, b9]) (by simp)))
                have KWI := Lib.hid (show Keeps [] w wi from ((KE.out.mono (T := [b7, b9]) (by simp)).trans KRI.out).fresh (by intro y hy hlt; simp at hy; have := L7.out; have := L8.out; omega))
                have H7I := Lib.hid h7i
                have H9I := Lib.hid h9i
                clear c0 c1 c2 c3 f0 f1 f2 f3 H70 H90 KWH KRH hwi h7i h9i ki
                refine (HF2.out _ KWI.out KRI.out).mono ?_
                clear HF2
                rintro e wj ⟨rfl, kj⟩
                have KRJ := Lib.hid (show Keeps [b7, b9] we wj from KRI.out.trans (kj.mono (T := [b7, b9]) (by simp)))
                have h7j := (kj.block b7 (lt_of_block H7I.out) (by simp)).trans H7I.out
                have h9j := (kj.block b9 (lt_of_block H9I.out) (by simp)).trans H9I.out
                have hrj := (KRJ.out.block rb (lt_of_block HBE.out) (by have := L7.out; have := L8.out; simp; omega)).trans HBE.out
                obtain ⟨h9f, kf⟩ := rule_set h9j (.string x2n) (.bool x2d) (.int .u32 x2a) (.int .u16 x2p)
                have h7f := (kf.block b7 (lt_of_block h7j) (by simp; exact n79)).trans h7j
                have HEND := Lib.hid (show Keeps [b7, b9] we ((((wj.setCell ⟨b9, 0, none⟩ (.string x2n)).setCell ⟨b9, 1, none⟩ (.bool x2d)).setCell ⟨b9, 2, none⟩ (.int .u32 x2a)).setCell ⟨b9, 3, none⟩ (.int .u16 x2p)) ∧
                    ∃ x y : PR, ((((wj.setCell ⟨b9, 0, none⟩ (.string x2n)).setCell ⟨b9, 1, none⟩ (.bool x2d)).setCell ⟨b9, 2, none⟩ (.int .u32 x2a)).setCell ⟨b9, 3, none⟩ (.int .u16 x2p)).heap[b7]? = some (.cells #[.string x.name, .bool x.deny, .int .u32 x.addr, .int .u16 x.port] 35 (0, 0)) ∧
                      ((((wj.setCell ⟨b9, 0, none⟩ (.string x2n)).setCell ⟨b9, 1, none⟩ (.bool x2d)).setCell ⟨b9, 2, none⟩ (.int .u32 x2a)).setCell ⟨b9, 3, none⟩ (.int .u16 x2p)).heap[b9]? = some (.cells #[.string y.name, .bool y.deny, .int .u32 y.addr, .int .u16 y.port] 35 (0, 0)) from
                  ⟨KRJ.out.trans (kf.mono (T := [b7, b9]) (by simp)), ⟨x1n, x1d, x1a, x1p⟩, ⟨x2n, x2d, x2a, x2p⟩, h7f, h9f⟩)
                have a0 := cell_of_block h7j 0
                have a1 := cell_of_block h7j 1
                have a2 := cell_of_block h7j 2
                have a3 := cell_of_block h7j 3
                have c0 := cell_of_block h9j 0
                have c1 := cell_of_block h9j 1
                have c2 := cell_of_block h9j 2
                have c3 := cell_of_block h9j 3
                have f0 := free_of_block h9j 0
                have f1 := free_of_block h9j 1
                have f2 := free_of_block h9j 2
                have f3 := free_of_block h9j 3
                have r0 := cell_of_block hrj 0
                have r1 := cell_of_block hrj 1
                have r2 := cell_of_block hrj 2
                have r3 := cell_of_block hrj 3
                have n9r : ¬ b9 = rb := by have := L7.out; have := L8.out; omega
                have nr9 : ¬ rb = b9 := by have := L7.out; have := L8.out; omega
                have hsn := HSZ.out
                have hws : wrap64 ((sn.size : Int) - 2) = (fb.size : Int) := by
                  have := HFS.out
                  unfold wrap64
                  omega
                clear kj h7j h9j hrj h9f kf h7f H7I H9I KRI KWI hw1 hg2 hz1 hz2 hz3 h20'
                rcases WAYS.out with ⟨x, e1, e2, hs, hn⟩ | ⟨e2, ho⟩
                · have g1 := HX1.out
                  have g2' := HX2.out
                  have g3 := HQ1.out
                  have g4 := HQ2.out
                  rw [e1] at g1 g3
                  rw [e2] at g2' g4
                  have e3 : x = ⟨x1n, x1d, x1a, x1p⟩ := g1
                  subst e3
                  have e4 : (⟨x1n, x1d, x1a, x1p⟩ : PR) = ⟨x2n, x2d, x2a, x2p⟩ := g2'
                  injection e4 with i1 i2 i3 i4
                  subst i1 i2 i3 i4
                  have e5 : true = q1 := g3
                  have e6 : true = q2 := g4
                  subst e5 e6
                  have hs' : (fb.size : Int) < (x1n.size : Int) := by have : fb.size < x1n.size := hs; omega
                  clear g1 g2' g3 g4 e1 e2 hs
                  by_cases hn1 : x1n = g2
                  · subst hn1
                    have hs2 : (x1n.toList == x1n.toList) = true := by simp
                    clear hn
                    go_wp2_with fail
                    exact ⟨⟨i + 1, x1n, by simp, rfl, by omega, Lib.hid ⟨F2.out, SZ2.out, .inr SUF2.out, HEND.out⟩⟩, by simp [intOf]; omega⟩
                  · have hs2 : (x1n.toList == g2.toList) = false := by rw [ba_toList]; exact decide_eq_false hn1
                    have hs3 : (sn.size : Int) < (x1n.size : Int) := by
                      rcases hn with h | h
                      · exact absurd h hn1
                      · have h' : fb.size + 2 < x1n.size := h
                        omega
                    clear hn hn1
                    go_wp2_with fail
                    exact ⟨⟨i + 1, g2, by simp, rfl, by omega, Lib.hid ⟨F2.out, SZ2.out, .inr SUF2.out, HEND.out⟩⟩, by simp [intOf]; omega⟩
                · have g2' := HX2.out
                  have g4 := HQ2.out
                  rw [e2] at g2' g4
                  rw [HSR.out] at g2'
                  have e4 : (⟨sn, true, 0, 0⟩ : PR) = ⟨x2n, x2d, x2a, x2p⟩ := g2'
                  injection e4 with i1 i2 i3 i4
                  subst i1 i2 i3 i4
                  have e6 : true = q2 := g4
                  subst e6
                  clear g2' g4 e2
                  rcases ho with e1 | ⟨x, e1, hn, hs⟩
                  · have g3 := HQ1.out
                    rw [e1] at g3
                    have e5 : false = q1 := g3
                    subst e5
                    clear g3 e1
                    go_wp2_with fail
                    exact ⟨⟨i + 1, g2, by simp, rfl, by omega, Lib.hid ⟨F2.out, SZ2.out, .inr SUF2.out, HEND.out⟩⟩, by simp [intOf]; omega⟩
                  · have g1 := HX1.out
                    have g3 := HQ1.out
                    rw [e1] at g1 g3
                    have e3 : x = ⟨x1n, x1d, x1a, x1p⟩ := g1
                    subst e3
                    have e5 : true = q1 := g3
                    subst e5
                    have hs2 : (x1n.toList == g2.toList) = false := by rw [ba_toList]; exact decide_eq_false hn
                    have hs3 : ¬ (sn.size : Int) < (x1n.size : Int) := by
                      have : x1n.size < fb.size + 2 := hs
                      omega
                    clear g1 g3 e1 hn hs
                    by_cases hgt : fb.size < x1n.size
                    · have hgt' : (fb.size : Int) < (x1n.size : Int) := by omega
                      clear hgt
                      go_wp2_with fail
                      exact ⟨⟨i + 1, g2, by simp, rfl, by omega, Lib.hid ⟨F2.out, SZ2.out, .inr SUF2.out, HEND.out⟩⟩, by simp [intOf]; omega⟩
                    · have hgt' : ¬ (fb.size : Int) < (x1n.size : Int) := by omega
                      clear hgt
                      go_wp2_with fail
                      exact ⟨⟨i + 1, g2, by simp, rfl, by omega, Lib.hid ⟨F2.out, SZ2.out, .inr SUF2.out, HEND.out⟩⟩, by simp [intOf]; omega⟩
          · obtain rfl : i = n2 := by omega
            have hlt' : ¬ (i : Int) < (i : Int) := by omega
            go_wp2_with fail
            refine (HWK.out _ KW.out).mono ?_
            rintro e wz ⟨rfl, kz⟩
            have KZ := Lib.hid (KW.out.trans kz)
            clear kz
            go_wp2_with fail
            go_ret
            exact ⟨rfl, KZ.out⟩
set_option maxRecDepth 100000 in
theorem open_ahead {H : Type} {enc : TypeId × Value → H} {W : World} {v : Value} {d : DataW H} {p : List MemPlace} {b0 : Nat} (o : Value.okWide Tryd.prog W .any b0 30 v) (h : DataW.Trod enc Tryd.prog W 0 (fun _ => true) true 30 v d p) :
    ∃ A n k zs, v = .slice A n k ∧ zs.length = n ∧ StrsAt W A zs := by
  obtain ⟨a0, len, cap, rfl⟩ := okWide_slice Tryd.underlying30 o
  obtain ⟨fuel, hf⟩ := h
  rcases Go.Deep.open_strs Tryd.underlying30 Tryd.underlying9 (by kernel_rfl) hf with ⟨hcs, _⟩ | ⟨a, len', cap', m, Sx, hcs, hb, hl, hm, hmm, _, hx⟩
  · simp [Value.cells] at hcs
    obtain ⟨rfl, rfl, rfl⟩ := hcs
    exact ⟨none, 0, 0, [], rfl, rfl, .inl rfl⟩
  · simp [Value.cells] at hcs
    obtain ⟨rfl, rfl, rfl⟩ := hcs
    have hlm : len ≤ m := by rw [hmm]; split <;> omega
    rcases Nat.eq_zero_or_pos len with h0 | hp
    · subst h0
      exact ⟨some a, 0, cap, [], rfl, rfl, .inl rfl⟩
    · have hsp : a.spot = none := by
        have g := (hx 0 (by omega)).1
        simp only [Addr.add, if_true] at g
        unfold World.cell? at g
        split at g
        · split at g
          · cases g
          · rename_i hs; simpa using hs
        · cases g
      obtain ⟨blk, off, sp⟩ := a
      simp only at hsp
      subst hsp
      refine ⟨_, len, cap, (List.range len).map Sx, rfl, by simp, .inr ⟨blk, off, rfl, fun i x hxi => ?_⟩⟩
      have hi : i < len := by have := (List.getElem?_eq_some_iff.1 hxi).1; simpa using this
      rw [List.getElem?_map] at hxi
      simp [hi] at hxi
      subst hxi
      have := (hx i (by omega)).1
      rw [addr_add] at this
      exact this
theorem suffix_walk (w : World) (hw : LW w) (c : PC) (r : PCR) (A : Option Addr) (n k : Nat) (l : List PR) (hn : l.length = n) (hl : RulesAt w A l) (hnk : n ≤ k) (name : ByteArray) (A2 : Option Addr) (n2 k2 : Nat) (zs : List ByteArray) (hzn : zs.length = n2) (hzs : StrsAt w A2 zs) :
    Calls Tryd.prog 3 #[cfgV c r, .slice A n k, .string name, .slice A2 n2 k2] w fun e w' => e = .returned (.bool true) ∧ Keeps [] w w' := by
  cases hz : foldIs name with
  | false => exact ps_no w hw c r A n k l hn hnk name A2 n2 k2 hz
  | true =>
    by_cases h1 : 100 < (foldB name).size
    · exact ps_long w hw c r A n k l hn hnk name A2 n2 k2 hz h1
    · by_cases h2 : 6 < n2
      · exact ps_many w hw c r A n k l hn hnk name A2 n2 k2 hz h1 h2
      · exact ps_main w hw c r A n k l hn hl hnk name A2 n2 k2 zs hzn hzs hz h1 h2
set_option maxRecDepth 100000 in
theorem policySuffix_typed {H : Type} (enc : TypeId × Value → H) (W : World) (base : Nat) {v0 v1 v2 v3 : Value} {d0 d1 d2 d3 : DataW H} {p0 p1 p2 p3 : List MemPlace}
    (o0 : Value.okWide Tryd.prog W .any base 29 v0) (o1 : Value.okWide Tryd.prog W .any base 26 v1) (o2 : Value.okWide Tryd.prog W .any base 9 v2) (o3 : Value.okWide Tryd.prog W .any base 30 v3)
    (h0 : DataW.Trod enc Tryd.prog W 0 (fun _ => true) true 29 v0 d0 p0) (h1 : DataW.Trod enc Tryd.prog W 0 (fun _ => true) true 26 v1 d1 p1) (h2 : DataW.Trod enc Tryd.prog W 0 (fun _ => true) true 9 v2 d2 p2) (h3 : DataW.Trod enc Tryd.prog W 0 (fun _ => true) true 30 v3 d3 p3) (hL : LW W) :
    Calls Tryd.prog 3 #[v0, v1, v2, v3] W fun e W' => e = .returned (.bool true) ∧ Below W.heap.size W W' := by
  obtain ⟨c, r, rfl⟩ := open_config o0 h0
  obtain ⟨A, n, k, l, rfl, hn, hl, hnk, hk⟩ := open_rules o1 h1
  obtain ⟨s, rfl, _, _, hs⟩ := Go.ChangeMaps.open_string Tryd.underlying9 o2 h2
  obtain ⟨A2, n2, k2, zs, rfl, hzn, hzs⟩ := open_ahead o3 h3
  exact (suffix_walk W hL c r A n k l hn hl hnk s A2 n2 k2 zs hzn hzs).mono fun E W' ⟨he, k⟩ => ⟨he, k.below (Nat.le_refl _) (by simp)⟩
end Go.Proofs.YtbmkdnkiojapbaaDoor
