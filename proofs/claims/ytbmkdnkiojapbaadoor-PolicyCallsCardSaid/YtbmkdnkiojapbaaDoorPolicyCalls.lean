/-
  The walk of the law PolicyCalls. Condition: the library's tables lie as the row lists them; the arguments are in the ranges of their kinds.
-/
import Derived.Test.YtbmkdnkiojapbaaDoorPolRi
import Derived.Test.YtbmkdnkiojapbaaDoorPolRj
import Derived.Test.YtbmkdnkiojapbaaDoorPolRk
import Derived.Test.YtbmkdnkiojapbaaDoorPolRl
import Derived.Test.YtbmkdnkiojapbaaDoorPolD
import Derived.Test.YtbmkdnkiojapbaaDoorPolicySuffix
import Derived.Test.YtbmkdnkiojapbaaDoorPolU
namespace Go.Proofs.YtbmkdnkiojapbaaDoor
open Go.RowKit Go.ChangeShapes Go.WideShapes Go.ChangeAt Go.Joins Go.Lib
set_option linter.unusedVariables false
set_option linter.unusedSimpArgs false

theorem row_own {w w' : World} {A : Option Addr} {n c : Nat} {l : List PR} (hn : l.length = n) (h : OwnR w' w.heap.size (.slice A n c) l) : RowOut w w' A n := by
  rcases h.2 with ⟨h1, h2⟩ | ⟨g, cap', cur, h1, hb, hg, hnc, hm, hsz, ht⟩
  · injection h1 with h1 h3 h4
    exact .inl ⟨h1, h3⟩
  · have h1' := h1
    injection h1 with h1 h3 h4
    subst h1 h4
    exact .inr ⟨g, rfl, hb, (h.lt g rfl).2, ports_own hn h⟩
theorem PortsAt.keep0 {w w' : World} {g n : Nat} (h : PortsAt w g n) (k : Keeps [] w w') : PortsAt w' g n := fun i hi => by
  obtain ⟨⟨p, hp⟩, hf⟩ := h i hi
  exact ⟨⟨p, cell_keeps k hp (by simp)⟩, (World.frozen?_of_block (w := w) (k.block g (lt_of_cell hp) (by simp))).trans hf⟩
theorem row_letter {w w' : World} {A : Option Addr} {n : Nat} (h : RowOut w w' A n) : ∃ g S, (∀ y ∈ S, w.heap.size ≤ y ∧ y < w'.heap.size) ∧ PortsAt w' g n ∧ (0 < n → A = some ⟨g, 0, none⟩ ∧ S = [g]) := by
  rcases h with ⟨rfl, rfl⟩ | ⟨g, rfl, h3, h4, h5⟩
  · exact ⟨0, [], by simp, fun i hi => absurd hi (by omega), fun h => absurd h (by omega)⟩
  · exact ⟨g, [g], by simp; omega, h5, fun _ => ⟨rfl, rfl⟩⟩
theorem rules_same {L l1 l2 : List PR} {A : Option Addr} {W : World} (h1 : l1.Perm L) (h2 : l2.Perm L) (r1 : Rising l1) (r2 : Rising l2) (hn : (L.map PR.name).Nodup) (h : RulesAt W A l1) : RulesAt W A l2 := by
  have e : l1 = l2 := rising_unique (h1.trans h2.symm) r1 r2 ((h1.map PR.name).nodup_iff.2 hn)
  rw [← e]; exact h
set_option maxRecDepth 100000 in
set_option maxHeartbeats 16000000 in
theorem pc_bad (w : World) (hw : LW w) (c : PC) (r : PCR) (A : Option Addr) (n k : Nat) (l : List PR) (hn : l.length = n) (hl : RulesAt w A l) (hnk : n ≤ k) (name : ByteArray) (hz : mayL c (l.take 260) = false) :
    Calls Tryd.prog 7 #[cfgV c r, .slice A n k, .string name] w fun e w' => e = .returned (.bool true) ∧ Keeps [] w w' := by
  obtain ⟨CS, hCS⟩ : ∃ CS : List Value, CS = [.int .u32 c.inside, .int .u32 c.mask, .int .u32 c.outer, .int .u16 r.lo, .int .u16 r.hi, .int .u64 r.qu, .int .i64 r.fl, .slice r.wa r.wn r.wc, .int .i64 r.sn, .int .u16 r.ms, .int .i64 r.sc, .bool r.sk, .int .u64 r.ky, .slice r.ra r.rn r.rc, .slice r.fa r.fn r.fc, .int .u64 r.rt, .int .i64 r.tr, .int .u64 r.dl, .int .u64 r.wt] := ⟨_, rfl⟩
  have hcv : cfgV c r = .agg CS.toArray := by rw [hCS]; rfl
  obtain ⟨L, hLt⟩ : ∃ L, l.take 260 = L := ⟨_, rfl⟩
  have hlL : RulesAt w A L := by rw [← hLt]; exact hl.take 260
  rw [hLt] at hz
  obtain ⟨m, hm⟩ : ∃ m, L.length = m := ⟨_, rfl⟩
  have hm1 : min (n : Int) 260 = m := by rw [← hm, ← hLt, ← hn]; simp; omega
  have hm2 : (m : Int) ≤ k := by omega
  have hm3 : (0 : Int) ≤ m := by omega
  have hm260 : m ≤ 260 := by omega
  have hcl : CS.length = 19 := by rw [hCS]; rfl
  have hi19 : (Tryd.prog.info? 29).map (·.size) = some CS.length := by rw [hcl]; kernel_rfl
  have HI19 := Lib.hid hi19
  have k1 : Keeps [] w (w.alloc (.cells CS.toArray 29)) := Keeps.alloc [] w _
  have HRB := Lib.hid (range_box w CS 29)
  have K1 := Lib.hid k1
  have HM := Lib.hid hm
  have HLL := Lib.hid (fun (W : World) (kz : Keeps [] w W) => hlL.keep0 kz)
  rw [hcv]
  have HWK := Lib.hid (fun (W : World) (kz : Keeps [] w W) => wakes_any W (hw.keep0 kz))
  have HRM := Lib.hid (fun (W : World) (kz : Keeps [] w W) => rmay_any W c r A m k L hm (hlL.keep0 kz) (by omega))
  have HPM := Lib.hid (fun (W : World) (kz : Keeps [] w W) => may_any W (hw.keep0 kz) c r A m k L hm (hlL.keep0 kz) (by omega))
  rw [hcv, hz] at HRM HPM
  have HNEW := Lib.hid (fun (W : World) (kz : Keeps [] w W) (A' : Option Addr) (k' : Nat) (hr : RulesAt W A' L) => new_bad W (hw.keep0 kz) c r A' m k' L hm hr (by omega) hz)
  rw [hcv] at HNEW
  clear hw hl hn hm hcv hCS hcl hz k1 hi19 hLt hlL
  go_enter Tryd.func7, Tryd.ntmps7
  go_wp2_with (first
    | (at_builtin; refine wpList_append_R (w0 := w.alloc (.cells CS.toArray 29)) rfl (.const (.slice none 0 0)) (.tmp 29) 26 rfl Tryd.underlying26 (.slice none 0 0) [] rfl (OwnR.nil _ _) A m k L rfl HM.out (HLL.out _ K1.out) (by simp; omega) (Keeps.refl [] _) ?_; intro v1 w1 own1 _ kw1; rw [List.nil_append] at own1; obtain ⟨A1, c1, rfl, hr1, hc1, hmx⟩ := own1.rules; rw [HM.out] at own1 hc1 ⊢; have O1 := Lib.hid (And.intro own1 hr1); have KW1 := Lib.hid kw1; clear own1 hr1 kw1)
    | (with_reducible refine wpList_load_want 29 (.tmp 3) (by with_reducible rfl) (by simp [Region.wanted, yielded]) w.heap.size 0 (by with_unfolding_all rfl) _ _ (rangeAt_keeps KW1.out HRB.out (by simp)) Tryd.underlying29 (by with_unfolding_all rfl) HI19.out ?_))
  refine (HNEW.out _ (K1.out.trans KW1.out) A1 c1 O1.out.2).mono ?_
  rintro e w2 ⟨rfl, k2⟩
  have K2 := Lib.hid ((K1.out.trans KW1.out).trans k2)
  have HR2 := Lib.hid (rangeAt_keeps (KW1.out.trans k2) HRB.out (by simp))
  clear k2 O1 HNEW
  go_wp2_with fail
  refine wp_region_held_drew (S := fun W => Keeps [] w2 W) (by kernel_rfl) ?hSa (fun hHeld => ?_)
  case hSa => exact (Keeps.refl [] _).drew'
  refine wpAnyH_take (i := 0) (oi := _) (v := ?va0) rfl (by kernel_rfl) (by kernel_rfl) (by kernel_rfl) (fun _ _ _ h => h) (Or.inl ⟨by rfl, ?hya0⟩) (by assumption) ?resta0
  case hya0 => (intro w hSw; (try dsimp only at hSw); go_simp; try (with_reducible rfl))
  try simp only [List.getElem_toArray, List.getElem_cons_zero, List.getElem_cons_succ, Act.put, List.setIfInBounds_toArray, List.set_cons_zero, List.set_cons_succ]
  refine wpAnyH_take (i := 1) (oi := _) (v := .bool false) rfl (by kernel_rfl) (by kernel_rfl) (by kernel_rfl) (fun _ _ _ h => h) (Or.inl ⟨by rfl, ?hya1⟩) (by assumption) ?resta1
  case hya1 => (intro w hSw; (try dsimp only at hSw); go_simp; try (with_reducible rfl))
  try simp only [List.getElem_toArray, List.getElem_cons_zero, List.getElem_cons_succ, Act.put, List.setIfInBounds_toArray, List.set_cons_zero, List.set_cons_succ]
  refine wpAnyH_take (i := 2) (oi := _) (v := .agg CS.toArray) rfl (by kernel_rfl) (by kernel_rfl) (by kernel_rfl) (fun _ _ _ h => h)
    (yieldsIf_load_mid (by rfl) 29 (.tmp 3) rfl w.heap.size 0 rfl CS _ (fun _ h => rangeAt_keeps h HR2.out (by simp)) Tryd.underlying29 rfl HI19.out) (by assumption) ?_
  try simp only [List.getElem_toArray, List.getElem_cons_zero, List.getElem_cons_succ, Act.put, List.setIfInBounds_toArray, List.set_cons_zero, List.set_cons_succ]
  refine wpAnyH_take (i := 3) (oi := _) (v := ?va3) rfl (by kernel_rfl) (by kernel_rfl) (by kernel_rfl) (fun _ _ _ h => h) (Or.inl ⟨by rfl, ?hya3⟩) (by assumption) ?resta3
  case hya3 => (intro w hSw; (try dsimp only at hSw); go_simp; try (with_reducible rfl))
  try simp only [List.getElem_toArray, List.getElem_cons_zero, List.getElem_cons_succ, Act.put, List.setIfInBounds_toArray, List.set_cons_zero, List.set_cons_succ]
  refine wpAnyH_ready (rs := [4]) (by kernel_rfl) (by simp) ?_
  refine AllReadyH.cons (o := _) rfl (fun K hK => ?_) AllReadyH.nil
  simp only [List.getElem_toArray, List.getElem_cons_zero, List.getElem_cons_succ]
  go_simp
  refine (HRM.out _ (K2.out.trans (Keeps.refl [] _).drew')).mono ?_
  rintro e wc1 ⟨rfl, kc1⟩
  refine hK.out _ _ ((Keeps.refl [] _).drew'.trans kc1) (fun hHeld1 => ?_)
  clear hK K
  have KC1 := Lib.hid ((Keeps.refl [] _).drew'.trans kc1)
  clear kc1
  try simp only [List.getElem_toArray, List.getElem_cons_zero, List.getElem_cons_succ, Act.put, List.setIfInBounds_toArray, List.set_cons_zero, List.set_cons_succ]
  refine wpAnyH_take (i := 5) (oi := _) (v := .bool false) rfl (by kernel_rfl) (by kernel_rfl) (by kernel_rfl) (fun _ _ _ h => h) (Or.inl ⟨by rfl, ?hya5⟩) (by assumption) ?resta5
  case hya5 => (intro w hSw; (try dsimp only at hSw); go_simp; try (with_reducible rfl))
  try simp only [List.getElem_toArray, List.getElem_cons_zero, List.getElem_cons_succ, Act.put, List.setIfInBounds_toArray, List.set_cons_zero, List.set_cons_succ]
  refine wpAnyH_take (i := 6) (oi := _) (v := .bool false) rfl (by kernel_rfl) (by kernel_rfl) (by kernel_rfl) (fun _ _ _ h => h) (Or.inl ⟨by rfl, ?hya6⟩) (by assumption) ?resta6
  case hya6 => (intro w hSw; (try dsimp only at hSw); go_simp; try (with_reducible rfl))
  try simp only [List.getElem_toArray, List.getElem_cons_zero, List.getElem_cons_succ, Act.put, List.setIfInBounds_toArray, List.set_cons_zero, List.set_cons_succ]
  refine wpAnyH_take (i := 7) (oi := _) (v := .agg CS.toArray) rfl (by kernel_rfl) (by kernel_rfl) (by kernel_rfl) (fun _ _ _ h => h)
    (yieldsIf_load_mid (by rfl) 29 (.tmp 3) rfl w.heap.size 0 rfl CS _ (fun _ h => rangeAt_keeps h HR2.out (by simp)) Tryd.underlying29 rfl HI19.out) (by assumption) ?_
  try simp only [List.getElem_toArray, List.getElem_cons_zero, List.getElem_cons_succ, Act.put, List.setIfInBounds_toArray, List.set_cons_zero, List.set_cons_succ]
  refine wpAnyH_take (i := 8) (oi := _) (v := ?va8) rfl (by kernel_rfl) (by kernel_rfl) (by kernel_rfl) (fun _ _ _ h => h) (Or.inl ⟨by rfl, ?hya8⟩) (by assumption) ?resta8
  case hya8 => (intro w hSw; (try dsimp only at hSw); go_simp; try (with_reducible rfl))
  try simp only [List.getElem_toArray, List.getElem_cons_zero, List.getElem_cons_succ, Act.put, List.setIfInBounds_toArray, List.set_cons_zero, List.set_cons_succ]
  refine wpAnyH_take (i := 10) (oi := _) (v := .agg CS.toArray) rfl (by kernel_rfl) (by kernel_rfl) (by kernel_rfl) (fun _ _ _ h => h)
    (yieldsIf_load_mid (by rfl) 29 (.tmp 3) rfl w.heap.size 0 rfl CS _ (fun _ h => rangeAt_keeps h HR2.out (by simp)) Tryd.underlying29 rfl HI19.out) (by assumption) ?_
  try simp only [List.getElem_toArray, List.getElem_cons_zero, List.getElem_cons_succ, Act.put, List.setIfInBounds_toArray, List.set_cons_zero, List.set_cons_succ]
  refine wpAnyH_take (i := 11) (oi := _) (v := ?va11) rfl (by kernel_rfl) (by kernel_rfl) (by kernel_rfl) (fun _ _ _ h => h) (Or.inl ⟨by rfl, ?hya11⟩) (by assumption) ?resta11
  case hya11 => (intro w hSw; (try dsimp only at hSw); go_simp; try (with_reducible rfl))
  try simp only [List.getElem_toArray, List.getElem_cons_zero, List.getElem_cons_succ, Act.put, List.setIfInBounds_toArray, List.set_cons_zero, List.set_cons_succ]
  refine wpAnyH_ready (rs := [9]) (by kernel_rfl) (by simp) ?_
  refine AllReadyH.cons (o := _) rfl (fun K hK => ?_) AllReadyH.nil
  simp only [List.getElem_toArray, List.getElem_cons_zero, List.getElem_cons_succ]
  go_simp
  refine (HPM.out _ (K2.out.trans KC1.out)).mono ?_
  rintro e wc2 ⟨rfl, kc2⟩
  refine hK.out _ _ (KC1.out.trans kc2) (fun hHeld2 => ?_)
  clear hK K
  have KC2 := Lib.hid (KC1.out.trans kc2)
  clear kc2
  try simp only [List.getElem_toArray, List.getElem_cons_zero, List.getElem_cons_succ, Act.put, List.setIfInBounds_toArray, List.set_cons_zero, List.set_cons_succ]
  refine wpAnyH_ready (rs := [12]) (by kernel_rfl) (by simp) ?_
  refine AllReadyH.cons (o := _) rfl (fun K hK => ?_) AllReadyH.nil
  simp only [List.getElem_toArray, List.getElem_cons_zero, List.getElem_cons_succ]
  go_simp
  refine (HRM.out _ (K2.out.trans KC2.out)).mono ?_
  rintro e wc3 ⟨rfl, kc3⟩
  refine hK.out _ _ (KC2.out.trans kc3) (fun hHeld3 => ?_)
  clear hK K
  have KC3 := Lib.hid (KC2.out.trans kc3)
  clear kc3
  try simp only [List.getElem_toArray, List.getElem_cons_zero, List.getElem_cons_succ, Act.put, List.setIfInBounds_toArray, List.set_cons_zero, List.set_cons_succ]
  refine wpAnyH_take (i := 13) (oi := _) (v := .bool false) rfl (by kernel_rfl) (by kernel_rfl) (by kernel_rfl) (fun _ _ _ h => h) (Or.inl ⟨by rfl, ?hya13⟩) (by assumption) ?resta13
  case hya13 => (intro w hSw; (try dsimp only at hSw); go_simp; try (with_reducible rfl))
  try simp only [List.getElem_toArray, List.getElem_cons_zero, List.getElem_cons_succ, Act.put, List.setIfInBounds_toArray, List.set_cons_zero, List.set_cons_succ]
  refine wpAnyH_take (i := 14) (oi := _) (v := .bool false) rfl (by kernel_rfl) (by kernel_rfl) (by kernel_rfl) (fun _ _ _ h => h) (Or.inl ⟨by rfl, ?hya14⟩) (by assumption) ?resta14
  case hya14 => (intro w hSw; (try dsimp only at hSw); go_simp; try (with_reducible rfl))
  try simp only [List.getElem_toArray, List.getElem_cons_zero, List.getElem_cons_succ, Act.put, List.setIfInBounds_toArray, List.set_cons_zero, List.set_cons_succ]
  refine wpAnyH_done (by kernel_rfl) ?_ _
  clear hHeld hHeld1 hHeld2 hHeld3 KC1 KC2 HRM HPM HR2
  have K3 := Lib.hid (K2.out.trans KC3.out)
  go_wp2_with fail
  refine (HWK.out _ K3.out).mono ?_
  rintro e w4 ⟨rfl, k4⟩
  have K4 := Lib.hid (K3.out.trans k4)
  clear k4
  go_wp2_with fail
  go_ret
  exact ⟨rfl, K4.out⟩
set_option maxRecDepth 100000 in
set_option maxHeartbeats 16000000 in
theorem pc_ok (w : World) (hw : LW w) (c : PC) (r : PCR) (A : Option Addr) (n k : Nat) (l : List PR) (hn : l.length = n) (hl : RulesAt w A l) (hnk : n ≤ k) (name : ByteArray) (hz : mayL c (l.take 260) = true) :
    Calls Tryd.prog 7 #[cfgV c r, .slice A n k, .string name] w fun e w' => e = .returned (.bool true) ∧ Keeps [] w w' := by
  obtain ⟨CS, hCS⟩ : ∃ CS : List Value, CS = [.int .u32 c.inside, .int .u32 c.mask, .int .u32 c.outer, .int .u16 r.lo, .int .u16 r.hi, .int .u64 r.qu, .int .i64 r.fl, .slice r.wa r.wn r.wc, .int .i64 r.sn, .int .u16 r.ms, .int .i64 r.sc, .bool r.sk, .int .u64 r.ky, .slice r.ra r.rn r.rc, .slice r.fa r.fn r.fc, .int .u64 r.rt, .int .i64 r.tr, .int .u64 r.dl, .int .u64 r.wt] := ⟨_, rfl⟩
  have hcv : cfgV c r = .agg CS.toArray := by rw [hCS]; rfl
  obtain ⟨L, hLt⟩ : ∃ L, l.take 260 = L := ⟨_, rfl⟩
  have hlL : RulesAt w A L := by rw [← hLt]; exact hl.take 260
  rw [hLt] at hz
  obtain ⟨m, hm⟩ : ∃ m, L.length = m := ⟨_, rfl⟩
  have hm1 : min (n : Int) 260 = m := by rw [← hm, ← hLt, ← hn]; simp; omega
  have hm2 : (m : Int) ≤ k := by omega
  have hm3 : (0 : Int) ≤ m := by omega
  have hm260 : m ≤ 260 := by omega
  have hcl : CS.length = 19 := by rw [hCS]; rfl
  have hi19 : (Tryd.prog.info? 29).map (·.size) = some CS.length := by rw [hcl]; kernel_rfl
  have HI19 := Lib.hid hi19
  have k1 : Keeps [] w (w.alloc (.cells CS.toArray 29)) := Keeps.alloc [] w _
  have HRB := Lib.hid (range_box w CS 29)
  have K1 := Lib.hid k1
  have HM := Lib.hid hm
  have HLL := Lib.hid (fun (W : World) (kz : Keeps [] w W) => hlL.keep0 kz)
  rw [hcv]
  have HWK := Lib.hid (fun (W : World) (kz : Keeps [] w W) => wakes_any W (hw.keep0 kz))
  have HRM := Lib.hid (fun (W : World) (kz : Keeps [] w W) => rmay_any W c r A m k L hm (hlL.keep0 kz) (by omega))
  have HPM := Lib.hid (fun (W : World) (kz : Keeps [] w W) => may_any W (hw.keep0 kz) c r A m k L hm (hlL.keep0 kz) (by omega))
  rw [hcv, hz] at HRM HPM
  have hmi := (mayL_iff c L).1 hz
  have hTl : (tabL L).length = m := by rw [tabL_eq hmi.2.1, List.length_map, hm]
  have HNEW := Lib.hid (fun (W : World) (kz : Keeps [] w W) (A' : Option Addr) (k' : Nat) (hr : RulesAt W A' L) => new_ok W (hw.keep0 kz) c r A' m k' L hm hr (by omega) hz)
  have HALL := Lib.hid (fun (W : World) (tb mb : Nat) (ht : TabAt W tb mb (tabL L)) => all_own W tb mb (tabL L) ht (by rw [tabL_keys hmi.2.1]; exact hmi.2.1) (tab_small hz) (by rw [hTl]; omega))
  rw [hTl, tabL_vals hmi.2.1] at HALL
  have HRALL := Lib.hid (fun (W : World) (kz : Keeps [] w W) => rall_any W A m k c L hm hz (hlL.keep0 kz))
  have HFIND := Lib.hid (fun (W : World) (kz : Keeps [] w W) (tb mb : Nat) (ht : TabAt W tb mb (tabL L)) => find_any W (hw.keep0 kz) tb mb (tabL L) ht name)
  have HRFIND := Lib.hid (fun (W : World) (kz : Keeps [] w W) => rfind_any W A m k c L hm hz (hlL.keep0 kz) name)
  have HWH := Lib.hid (fun (W : World) (kz : Keeps [] w W) (tb mb : Nat) (ht : TabAt W tb mb (tabL L)) => where_any W (hw.keep0 kz) tb mb (tabL L) ht name)
  have HRWH := Lib.hid (fun (W : World) (kz : Keeps [] w W) => rwhere_any W A m k c L hm hz (hlL.keep0 kz) name)
  obtain ⟨fo, hfo⟩ : ∃ fo, findT (tabL L) (foldB name) = fo := ⟨_, rfl⟩
  rw [hfo] at HFIND HRFIND HWH HRWH
  obtain ⟨⟨xn, xd, xa, xp⟩, hxr⟩ : ∃ x, fo.getD zeroPR = x := ⟨_, rfl⟩
  obtain ⟨pr, hpr⟩ : ∃ p, fo.isSome = p := ⟨_, rfl⟩
  rw [hxr, hpr] at HFIND HRFIND
  obtain ⟨⟨fa, fp, fw⟩, hfw⟩ : ∃ x, whereT fo = x := ⟨_, rfl⟩
  rw [hfw] at HWH HRWH
  unfold encPR at HFIND HRFIND
  dsimp only at HWH HRWH
  have HND := Lib.hid hmi.2.1
  rw [hcv] at HNEW
  clear hw hl hn hm hcv hCS hcl hz k1 hi19 hLt hlL hmi hTl hfo hxr hpr hfw
  go_enter Tryd.func7, Tryd.ntmps7
  go_wp2_with (first
    | (at_builtin; refine wpList_append_R (w0 := w.alloc (.cells CS.toArray 29)) rfl (.const (.slice none 0 0)) (.tmp 29) 26 rfl Tryd.underlying26 (.slice none 0 0) [] rfl (OwnR.nil _ _) A m k L rfl HM.out (HLL.out _ K1.out) (by simp; omega) (Keeps.refl [] _) ?_; intro v1 w1 own1 _ kw1; rw [List.nil_append] at own1; obtain ⟨A1, c1, rfl, hr1, hc1, hmx⟩ := own1.rules; rw [HM.out] at own1 hc1 ⊢; have O1 := Lib.hid (And.intro own1 hr1); have KW1 := Lib.hid kw1; clear own1 hr1 kw1)
    | (with_reducible refine wpList_load_want 29 (.tmp 3) (by with_reducible rfl) (by simp [Region.wanted, yielded]) w.heap.size 0 (by with_unfolding_all rfl) _ _ (rangeAt_keeps KW1.out HRB.out (by simp)) Tryd.underlying29 (by with_unfolding_all rfl) HI19.out ?_))
  refine (HNEW.out _ (K1.out.trans KW1.out) A1 c1 O1.out.2).mono ?_
  rintro e w2 ⟨tb, mb, rfl, ht2, k2, hs1, hs2⟩
  have K2 := Lib.hid ((K1.out.trans KW1.out).trans k2)
  have HR2 := Lib.hid (rangeAt_keeps (KW1.out.trans k2) HRB.out (by simp))
  obtain ⟨g, S, hg1, hg3, hg4⟩ := row_letter (row_own HM.out O1.out.1)
  have HG := Lib.hid (show ∀ y ∈ S, w.heap.size ≤ y ∧ tb ≠ y ∧ mb ≠ y from fun y hy => by
    have := hg1 y hy
    rw [World.size_alloc] at this
    omega)
  have HP2 := Lib.hid (hg3.keep0 k2)
  have HA1 := Lib.hid hg4
  have HT2 := Lib.hid ht2
  clear k2 O1 HNEW ht2 hs1 hs2 hg1 hg3 hg4 HRB
  go_wp2_with fail
  refine wp_region_held_drew (S := fun W => Keeps [] w2 W) (by kernel_rfl) ?hSb (fun hHeld => ?_)
  case hSb => exact (Keeps.refl [] _).drew'
  refine wpAnyH_take (i := 0) (oi := _) (v := ?vb0) rfl (by kernel_rfl) (by kernel_rfl) (by kernel_rfl) (fun _ _ _ h => h) (Or.inl ⟨by rfl, ?hyb0⟩) (by assumption) ?restb0
  case hyb0 => (intro w hSw; (try dsimp only at hSw); go_simp; try (with_reducible rfl))
  try simp only [List.getElem_toArray, List.getElem_cons_zero, List.getElem_cons_succ, Act.put, List.setIfInBounds_toArray, List.set_cons_zero, List.set_cons_succ]
  refine wpAnyH_take (i := 1) (oi := _) (v := .bool true) rfl (by kernel_rfl) (by kernel_rfl) (by kernel_rfl) (fun _ _ _ h => h) (Or.inl ⟨by rfl, ?hyb1⟩) (by assumption) ?restb1
  case hyb1 => (intro w hSw; (try dsimp only at hSw); go_simp; try (with_reducible rfl))
  try simp only [List.getElem_toArray, List.getElem_cons_zero, List.getElem_cons_succ, Act.put, List.setIfInBounds_toArray, List.set_cons_zero, List.set_cons_succ]
  refine wpAnyH_take (i := 2) (oi := _) (v := .agg CS.toArray) rfl (by kernel_rfl) (by kernel_rfl) (by kernel_rfl) (fun _ _ _ h => h)
    (yieldsIf_load_mid (by rfl) 29 (.tmp 3) rfl w.heap.size 0 rfl CS _ (fun _ h => rangeAt_keeps h HR2.out (by simp)) Tryd.underlying29 rfl HI19.out) (by assumption) ?_
  try simp only [List.getElem_toArray, List.getElem_cons_zero, List.getElem_cons_succ, Act.put, List.setIfInBounds_toArray, List.set_cons_zero, List.set_cons_succ]
  refine wpAnyH_take (i := 3) (oi := _) (v := ?vb3) rfl (by kernel_rfl) (by kernel_rfl) (by kernel_rfl) (fun _ _ _ h => h) (Or.inl ⟨by rfl, ?hyb3⟩) (by assumption) ?restb3
  case hyb3 => (intro w hSw; (try dsimp only at hSw); go_simp; try (with_reducible rfl))
  try simp only [List.getElem_toArray, List.getElem_cons_zero, List.getElem_cons_succ, Act.put, List.setIfInBounds_toArray, List.set_cons_zero, List.set_cons_succ]
  refine wpAnyH_ready (rs := [4]) (by kernel_rfl) (by simp) ?_
  refine AllReadyH.cons (o := _) rfl (fun K hK => ?_) AllReadyH.nil
  simp only [List.getElem_toArray, List.getElem_cons_zero, List.getElem_cons_succ]
  go_simp
  refine (HRM.out _ (K2.out.trans (Keeps.refl [] _).drew')).mono ?_
  rintro e wc1 ⟨rfl, kc1⟩
  refine hK.out _ _ ((Keeps.refl [] _).drew'.trans kc1) (fun hHeld1 => ?_)
  clear hK K
  have KC1 := Lib.hid ((Keeps.refl [] _).drew'.trans kc1)
  clear kc1
  try simp only [List.getElem_toArray, List.getElem_cons_zero, List.getElem_cons_succ, Act.put, List.setIfInBounds_toArray, List.set_cons_zero, List.set_cons_succ]
  refine wpAnyH_take (i := 5) (oi := _) (v := .bool false) rfl (by kernel_rfl) (by kernel_rfl) (by kernel_rfl) (fun _ _ _ h => h) (Or.inl ⟨by rfl, ?hyb5⟩) (by assumption) ?restb5
  case hyb5 => (intro w hSw; (try dsimp only at hSw); go_simp; try (with_reducible rfl))
  try simp only [List.getElem_toArray, List.getElem_cons_zero, List.getElem_cons_succ, Act.put, List.setIfInBounds_toArray, List.set_cons_zero, List.set_cons_succ]
  refine wpAnyH_take (i := 6) (oi := _) (v := .bool false) rfl (by kernel_rfl) (by kernel_rfl) (by kernel_rfl) (fun _ _ _ h => h) (Or.inl ⟨by rfl, ?hyb6⟩) (by assumption) ?restb6
  case hyb6 => (intro w hSw; (try dsimp only at hSw); go_simp; try (with_reducible rfl))
  try simp only [List.getElem_toArray, List.getElem_cons_zero, List.getElem_cons_succ, Act.put, List.setIfInBounds_toArray, List.set_cons_zero, List.set_cons_succ]
  refine wpAnyH_take (i := 7) (oi := _) (v := .agg CS.toArray) rfl (by kernel_rfl) (by kernel_rfl) (by kernel_rfl) (fun _ _ _ h => h)
    (yieldsIf_load_mid (by rfl) 29 (.tmp 3) rfl w.heap.size 0 rfl CS _ (fun _ h => rangeAt_keeps h HR2.out (by simp)) Tryd.underlying29 rfl HI19.out) (by assumption) ?_
  try simp only [List.getElem_toArray, List.getElem_cons_zero, List.getElem_cons_succ, Act.put, List.setIfInBounds_toArray, List.set_cons_zero, List.set_cons_succ]
  refine wpAnyH_take (i := 8) (oi := _) (v := ?vb8) rfl (by kernel_rfl) (by kernel_rfl) (by kernel_rfl) (fun _ _ _ h => h) (Or.inl ⟨by rfl, ?hyb8⟩) (by assumption) ?restb8
  case hyb8 => (intro w hSw; (try dsimp only at hSw); go_simp; try (with_reducible rfl))
  try simp only [List.getElem_toArray, List.getElem_cons_zero, List.getElem_cons_succ, Act.put, List.setIfInBounds_toArray, List.set_cons_zero, List.set_cons_succ]
  refine wpAnyH_take (i := 10) (oi := _) (v := .agg CS.toArray) rfl (by kernel_rfl) (by kernel_rfl) (by kernel_rfl) (fun _ _ _ h => h)
    (yieldsIf_load_mid (by rfl) 29 (.tmp 3) rfl w.heap.size 0 rfl CS _ (fun _ h => rangeAt_keeps h HR2.out (by simp)) Tryd.underlying29 rfl HI19.out) (by assumption) ?_
  try simp only [List.getElem_toArray, List.getElem_cons_zero, List.getElem_cons_succ, Act.put, List.setIfInBounds_toArray, List.set_cons_zero, List.set_cons_succ]
  refine wpAnyH_take (i := 11) (oi := _) (v := ?vb11) rfl (by kernel_rfl) (by kernel_rfl) (by kernel_rfl) (fun _ _ _ h => h) (Or.inl ⟨by rfl, ?hyb11⟩) (by assumption) ?restb11
  case hyb11 => (intro w hSw; (try dsimp only at hSw); go_simp; try (with_reducible rfl))
  try simp only [List.getElem_toArray, List.getElem_cons_zero, List.getElem_cons_succ, Act.put, List.setIfInBounds_toArray, List.set_cons_zero, List.set_cons_succ]
  refine wpAnyH_ready (rs := [9]) (by kernel_rfl) (by simp) ?_
  refine AllReadyH.cons (o := _) rfl (fun K hK => ?_) AllReadyH.nil
  simp only [List.getElem_toArray, List.getElem_cons_zero, List.getElem_cons_succ]
  go_simp
  refine (HPM.out _ (K2.out.trans KC1.out)).mono ?_
  rintro e wc2 ⟨rfl, kc2⟩
  refine hK.out _ _ (KC1.out.trans kc2) (fun hHeld2 => ?_)
  clear hK K
  have KC2 := Lib.hid (KC1.out.trans kc2)
  clear kc2
  try simp only [List.getElem_toArray, List.getElem_cons_zero, List.getElem_cons_succ, Act.put, List.setIfInBounds_toArray, List.set_cons_zero, List.set_cons_succ]
  refine wpAnyH_ready (rs := [12]) (by kernel_rfl) (by simp) ?_
  refine AllReadyH.cons (o := _) rfl (fun K hK => ?_) AllReadyH.nil
  simp only [List.getElem_toArray, List.getElem_cons_zero, List.getElem_cons_succ]
  go_simp
  refine (HRM.out _ (K2.out.trans KC2.out)).mono ?_
  rintro e wc3 ⟨rfl, kc3⟩
  refine hK.out _ _ (KC2.out.trans kc3) (fun hHeld3 => ?_)
  clear hK K
  have KC3 := Lib.hid (KC2.out.trans kc3)
  clear kc3
  try simp only [List.getElem_toArray, List.getElem_cons_zero, List.getElem_cons_succ, Act.put, List.setIfInBounds_toArray, List.set_cons_zero, List.set_cons_succ]
  refine wpAnyH_take (i := 13) (oi := _) (v := .bool false) rfl (by kernel_rfl) (by kernel_rfl) (by kernel_rfl) (fun _ _ _ h => h) (Or.inl ⟨by rfl, ?hyb13⟩) (by assumption) ?restb13
  case hyb13 => (intro w hSw; (try dsimp only at hSw); go_simp; try (with_reducible rfl))
  try simp only [List.getElem_toArray, List.getElem_cons_zero, List.getElem_cons_succ, Act.put, List.setIfInBounds_toArray, List.set_cons_zero, List.set_cons_succ]
  refine wpAnyH_take (i := 14) (oi := _) (v := .bool false) rfl (by kernel_rfl) (by kernel_rfl) (by kernel_rfl) (fun _ _ _ h => h) (Or.inl ⟨by rfl, ?hyb14⟩) (by assumption) ?restb14
  case hyb14 => (intro w hSw; (try dsimp only at hSw); go_simp; try (with_reducible rfl))
  try simp only [List.getElem_toArray, List.getElem_cons_zero, List.getElem_cons_succ, Act.put, List.setIfInBounds_toArray, List.set_cons_zero, List.set_cons_succ]
  refine wpAnyH_done (by kernel_rfl) ?_ _
  clear hHeld hHeld1 hHeld2 hHeld3 KC1 KC2 HRM HPM HR2
  obtain ⟨w4, hw4⟩ : ∃ w4, wc3 = w4 := ⟨_, rfl⟩
  rw [hw4] at KC3 ⊢
  clear hw4
  have K4 := Lib.hid (K2.out.trans KC3.out)
  have HT4 := Lib.hid (HT2.out.keep0 KC3.out)
  have HP4 := Lib.hid (HP2.out.keep0 KC3.out)
  clear HT2 HP2
  go_wp2_with fail
  go_loopw [10] (fun iv wr => ∃ i : Nat, iv = .int .i64 i ∧ i ≤ m ∧ Hid (PortsAt wr g m ∧ Keeps S w4 wr)) (fun iv _ => m - (intOf iv).toNat)
  case atStart => exact ⟨0, rfl, by omega, Lib.hid ⟨HP4.out, Keeps.refl _ _⟩⟩
  case round =>
    obtain ⟨i, rfl, hia, HI⟩ := hrel
    by_cases hlta : i < m
    · have hlt' : (i : Int) < m := by omega
      have hi0 : (0 : Int) ≤ i := by omega
      obtain ⟨rfl, rfl⟩ := HA1.out (by omega)
      obtain ⟨⟨p, hp⟩, hf⟩ := HI.out.1 i hlta
      go_wp2_with fail
      exact ⟨⟨i + 1, by simp, by omega, Lib.hid ⟨HI.out.1.set i _, HI.out.2.trans (Keeps.setCell wr ⟨g, i * 4 + 3, none⟩ _)⟩⟩, by simp [intOf]; omega⟩
    · have hlt' : ¬ (i : Int) < (m : Int) := by omega
      have K5 := Lib.hid (show Keeps [] w wr from ((K4.out.mono (T := S) (by simp)).trans HI.out.2).fresh (by intro y hy hlt; have := HG.out y hy; omega))
      have HT5 := Lib.hid (HT4.out.keep HI.out.2 (fun hy => (HG.out _ hy).2.1 rfl) (fun hy => (HG.out _ hy).2.2 rfl))
      clear HI HT4 HP4 K4
      go_wp2_with fail
      refine (HFIND.out _ K5.out tb mb HT5.out).mono ?_
      rintro e w6 ⟨rfl, k6⟩
      have K6 := Lib.hid (K5.out.trans k6)
      have HT6 := Lib.hid (HT5.out.keep0 k6)
      clear k6 HFIND K5 HT5
      go_wp2_with fail
      refine calls_gn fun wg hwg => ?_
      obtain ⟨b6, hb6⟩ : ∃ b6, w6.heap.size = b6 := ⟨_, rfl⟩
      have hg1 : Keeps [] w6 wg := by rw [hwg]; exact Keeps.alloc [] w6 _
      have hbl : wg.heap[b6]? = some (.cells #[.string xn, .bool xd, .int .u32 xa, .int .u16 xp] 35 (0, 0)) := by rw [hwg, ← hb6]; exact (MapKept.heap_alloc w6 _).1
      rw [hb6]
      have KG := Lib.hid (K6.out.trans hg1)
      have HTG := Lib.hid (HT6.out.keep0 hg1)
      have HBL := Lib.hid hbl
      clear hg1 hbl hwg hb6 K6 HT6
      refine (HRFIND.out _ KG.out).mono ?_
      rintro e w7 ⟨rfl, k7⟩
      have K7 := Lib.hid (KG.out.trans k7)
      have HT7 := Lib.hid (HTG.out.keep0 k7)
      have HB7 := Lib.hid ((k7.block b6 (lt_of_block HBL.out) (by simp)).trans HBL.out)
      clear k7 HRFIND KG HTG HBL
      go_wp2_with fail
      refine calls_gn fun wh hwh => ?_
      obtain ⟨b7, hb7⟩ : ∃ b7, w7.heap.size = b7 := ⟨_, rfl⟩
      have hg1 : Keeps [] w7 wh := by rw [hwh]; exact Keeps.alloc [] w7 _
      have hbl : wh.heap[b7]? = some (.cells #[.string xn, .bool xd, .int .u32 xa, .int .u16 xp] 35 (0, 0)) := by rw [hwh, ← hb7]; exact (MapKept.heap_alloc w7 _).1
      rw [hb7]
      have KH := Lib.hid (K7.out.trans hg1)
      have HTH := Lib.hid (HT7.out.keep0 hg1)
      have HBH := Lib.hid (And.intro ((hg1.block b6 (lt_of_block HB7.out) (by simp)).trans HB7.out) hbl)
      clear hg1 hbl hwh hb7 K7 HT7 HB7
      refine (HWH.out _ KH.out tb mb HTH.out).mono ?_
      rintro e w8 ⟨rfl, k8⟩
      have K8 := Lib.hid (KH.out.trans k8)
      have HT8 := Lib.hid (HTH.out.keep0 k8)
      have HB8 := Lib.hid (And.intro ((k8.block b6 (lt_of_block HBH.out.1) (by simp)).trans HBH.out.1) ((k8.block b7 (lt_of_block HBH.out.2) (by simp)).trans HBH.out.2))
      clear k8 HWH KH HTH HBH
      go_wp2_with fail
      refine (HRWH.out _ K8.out).mono ?_
      rintro e w9 ⟨rfl, k9⟩
      have K9 := Lib.hid (K8.out.trans k9)
      have HT9 := Lib.hid (HT8.out.keep0 k9)
      have HB9 := Lib.hid (And.intro ((k9.block b6 (lt_of_block HB8.out.1) (by simp)).trans HB8.out.1) ((k9.block b7 (lt_of_block HB8.out.2) (by simp)).trans HB8.out.2))
      clear k9 HRWH K8 HT8 HB8
      go_wp2_with fail
      refine (HALL.out _ tb mb HT9.out).mono ?_
      rintro e wa ⟨A2, c2, l2, rfl, hp2, hr2, hra2, hc2, hmx2, ka, hro⟩
      have KA := Lib.hid (K9.out.trans ka)
      have HTA := Lib.hid (HT9.out.keep0 ka)
      have HBA := Lib.hid (And.intro ((ka.block b6 (lt_of_block HB9.out.1) (by simp)).trans HB9.out.1) ((ka.block b7 (lt_of_block HB9.out.2) (by simp)).trans HB9.out.2))
      have HL2 := Lib.hid (And.intro hp2 (And.intro hr2 hra2))
      obtain ⟨h, S2, hh1, hh3, hh4⟩ := row_letter hro
      have HG2 := Lib.hid (show ∀ y ∈ S2, w.heap.size ≤ y ∧ tb ≠ y ∧ mb ≠ y from fun y hy => by
        have h1 := hh1 y hy
        have h2 := lt_of_block HT9.out.head
        have h3 := HT9.out.map.lt
        have h4 := K9.out.size
        omega)
      have HPA := Lib.hid hh3
      have HA2 := Lib.hid hh4
      clear hh1 hh3 hh4 hro ka hp2 hr2 hra2 K9 HT9 HB9
      have d0 : wa.cell? ⟨b6, 0, none⟩ = some (.string xn) := cell_of_block HBA.out.1 0
      have d1 : wa.cell? ⟨b6, 1, none⟩ = some (.bool xd) := cell_of_block HBA.out.1 1
      have d2 : wa.cell? ⟨b6, 2, none⟩ = some (.int .u32 xa) := cell_of_block HBA.out.1 2
      have d3 : wa.cell? ⟨b6, 3, none⟩ = some (.int .u16 xp) := cell_of_block HBA.out.1 3
      have e0 : wa.cell? ⟨b7, 0, none⟩ = some (.string xn) := cell_of_block HBA.out.2 0
      have e1 : wa.cell? ⟨b7, 1, none⟩ = some (.bool xd) := cell_of_block HBA.out.2 1
      have e2 : wa.cell? ⟨b7, 2, none⟩ = some (.int .u32 xa) := cell_of_block HBA.out.2 2
      have e3 : wa.cell? ⟨b7, 3, none⟩ = some (.int .u16 xp) := cell_of_block HBA.out.2 3
      go_wp2_with fail
      clear d0 d1 d2 d3 e0 e1 e2 e3 HBA
      refine (HRALL.out _ KA.out).mono ?_
      rintro e wb ⟨v3, l3, rfl, hp3, hr3, ho3, kb⟩
      obtain ⟨A3, c3, rfl, hra3, hc3, hmx3⟩ := ho3.rules
      have hl3 : l3.length = m := by rw [hp3.length_eq, HM.out]
      rw [hl3] at hc3 ⊢
      have KB := Lib.hid (KA.out.trans kb)
      have HTB := Lib.hid (HTA.out.keep0 kb)
      have HPB := Lib.hid (HPA.out.keep0 kb)
      have HSM := Lib.hid (same_any wb A2 A3 m c2 c3 l3 hl3 (by omega) (rules_same HL2.out.1 hp3 HL2.out.2.1 hr3 HND.out (HL2.out.2.2.keep0 kb)) hra3)
      clear hp3 hr3 ho3 hra3 hl3 kb HL2 KA HTA HPA
      go_wp2_with fail
      refine HSM.out.mono ?_
      rintro e wc ⟨rfl, kc⟩
      have KC := Lib.hid (KB.out.trans kc)
      have HTC := Lib.hid (HTB.out.keep0 kc)
      have HPC := Lib.hid (HPB.out.keep0 kc)
      clear kc HSM KB HTB HPB
      go_wp2_with fail
      go_loopw [23] (fun iv wr => ∃ j : Nat, iv = .int .i64 j ∧ j ≤ m ∧ Hid (PortsAt wr h m ∧ Keeps S2 wc wr)) (fun iv _ => m - (intOf iv).toNat)
      case atStart => exact ⟨0, rfl, by omega, Lib.hid ⟨HPC.out, Keeps.refl _ _⟩⟩
      case round =>
        obtain ⟨j, rfl, hib, HI⟩ := hrel
        by_cases hltb : j < m
        · have hlt' : (j : Int) < m := by omega
          have hi0 : (0 : Int) ≤ j := by omega
          obtain ⟨rfl, rfl⟩ := HA2.out (by omega)
          obtain ⟨⟨p, hp⟩, hf⟩ := HI.out.1 j hltb
          go_wp2_with fail
          exact ⟨⟨j + 1, by simp, by omega, Lib.hid ⟨HI.out.1.set j _, HI.out.2.trans (Keeps.setCell wr ⟨h, j * 4 + 3, none⟩ _)⟩⟩, by simp [intOf]; omega⟩
        · have hlt' : ¬ (j : Int) < (m : Int) := by omega
          have KD := Lib.hid (show Keeps [] w wr from ((KC.out.mono (T := S2) (by simp)).trans HI.out.2).fresh (by intro y hy hlt; have := HG2.out y hy; omega))
          have HTD := Lib.hid (HTC.out.keep HI.out.2 (fun hy => (HG2.out _ hy).2.1 rfl) (fun hy => (HG2.out _ hy).2.2 rfl))
          clear HI HTC HPC KC
          go_wp2_with fail
          refine (HALL.out _ tb mb HTD.out).mono ?_
          rintro e we ⟨A4, c4, l4, rfl, hp4, hr4, hra4, hc4, hmx4, ke, hro⟩
          have KE := Lib.hid (KD.out.trans ke)
          have HL4 := Lib.hid (And.intro hp4 (And.intro hr4 hra4))
          clear hp4 hr4 hra4 ke hro KD HTD
          go_wp2_with fail
          refine (HRALL.out _ KE.out).mono ?_
          rintro e wf ⟨v5, l5, rfl, hp5, hr5, ho5, kf⟩
          obtain ⟨A5, c5, rfl, hra5, hc5, hmx5⟩ := ho5.rules
          have hl5 : l5.length = m := by rw [hp5.length_eq, HM.out]
          rw [hl5] at hc5 ⊢
          have KF := Lib.hid (KE.out.trans kf)
          have HSM := Lib.hid (same_any wf A4 A5 m c4 c5 l5 hl5 (by omega) (rules_same HL4.out.1 hp5 HL4.out.2.1 hr5 HND.out (HL4.out.2.2.keep0 kf)) hra5)
          clear hp5 hr5 ho5 hra5 hl5 kf HL4 KE
          go_wp2_with fail
          refine HSM.out.mono ?_
          rintro e wg ⟨rfl, kg⟩
          have KGG := Lib.hid (KF.out.trans kg)
          clear kg HSM KF
          go_wp2_with fail
          refine (HWK.out _ KGG.out).mono ?_
          rintro e wi ⟨rfl, ki⟩
          have KI := Lib.hid (KGG.out.trans ki)
          clear ki KGG
          go_wp2_with fail
          go_ret
          exact ⟨rfl, KI.out⟩
set_option maxRecDepth 100000 in
theorem policyCalls_typed {H : Type} (enc : TypeId × Value → H) (W : World) (base : Nat) {v0 v1 v2 : Value} {d0 d1 d2 : DataW H} {p0 p1 p2 : List MemPlace}
    (o0 : Value.okWide Tryd.prog W .any base 29 v0) (o1 : Value.okWide Tryd.prog W .any base 26 v1) (o2 : Value.okWide Tryd.prog W .any base 9 v2)
    (h0 : DataW.Trod enc Tryd.prog W 0 (fun _ => true) true 29 v0 d0 p0) (h1 : DataW.Trod enc Tryd.prog W 0 (fun _ => true) true 26 v1 d1 p1) (h2 : DataW.Trod enc Tryd.prog W 0 (fun _ => true) true 9 v2 d2 p2) (hL : LW W) :
    Calls Tryd.prog 7 #[v0, v1, v2] W fun e W' => e = .returned (.bool true) ∧ Below W.heap.size W W' := by
  obtain ⟨c, r, rfl⟩ := open_config o0 h0
  obtain ⟨A, n, k, l, rfl, hn, hl, hnk, hk⟩ := open_rules o1 h1
  obtain ⟨s, rfl, _, _, hs⟩ := Go.ChangeMaps.open_string Tryd.underlying9 o2 h2
  cases hz : mayL c (l.take 260) with
  | false => exact (pc_bad W hL c r A n k l hn hl hnk s hz).mono fun e W' ⟨he, k⟩ => ⟨he, k.below (Nat.le_refl _) (by simp)⟩
  | true => exact (pc_ok W hL c r A n k l hn hl hnk s hz).mono fun e W' ⟨he, k⟩ => ⟨he, k.below (Nat.le_refl _) (by simp)⟩
end Go.Proofs.YtbmkdnkiojapbaaDoor
