/-
  The walk of the law PolicyWhere. Condition: the library's tables lie as the row lists them; the arguments are in the ranges of their kinds.
-/
import Derived.Test.YtbmkdnkiojapbaaDoorPolK
namespace Go.Proofs.YtbmkdnkiojapbaaDoor
open Go.RowKit Go.Lib
set_option linter.unusedVariables false
set_option linter.unusedSimpArgs false

theorem tabN_mem {l : List PR} {y : ByteArray} {x : PR} : ∀ i, SL.find y (tabN l i) = some x → x ∈ l := by
  intro i
  induction i with
  | zero => intro h; simp [tabN, SL.find] at h
  | succ i ih =>
    intro h
    by_cases hi : i < l.length
    · rw [tabN_next (List.getElem?_eq_getElem hi), SL.find_put] at h
      split at h
      · injection h with h; rw [← h]; exact List.getElem_mem hi
      · exact ih h
    · have e : tabN l (i + 1) = tabN l i := by unfold tabN; rw [List.take_of_length_le (by omega), List.take_of_length_le (by omega)]
      rw [e] at h; exact ih h
theorem findT_mem {l : List PR} {h : ByteArray} {x : PR} (hf : findT (tabL l) h = some x) : x ∈ l := by
  obtain ⟨y, _, hy⟩ := List.exists_of_findSome?_eq_some hf
  exact tabN_mem _ hy
theorem mayGo_leads {c : PC} : ∀ (l : List PR) (s : List ByteArray), mayGo c s l = true → ∀ x ∈ l, leadsOk c x = true
  | [], _, _, x, hx => by simp at hx
  | a :: t, s, h, x, hx => by
    simp only [mayGo, Bool.and_eq_true] at h
    rcases List.mem_cons.1 hx with rfl | hx
    · exact h.1.1.2
    · exact mayGo_leads t _ h.2 x hx
theorem mayL_leads {c : PC} {l : List PR} (h : mayL c l = true) : ∀ x ∈ l, leadsOk c x = true := by
  simp only [mayL, Bool.and_eq_true] at h
  exact mayGo_leads l [] h.1
theorem RulesAt.take {w : World} {A : Option Addr} {l : List PR} (h : RulesAt w A l) (m : Nat) : RulesAt w A (l.take m) := by
  rcases h with rfl | ⟨b, o, h1, h2⟩
  · exact .inl (by simp)
  · refine .inr ⟨b, o, h1, fun i x hx => h2 i x ?_⟩
    rw [List.getElem?_take] at hx
    split at hx
    · exact hx
    · cases hx

set_option maxRecDepth 100000 in
set_option maxHeartbeats 8000000 in
theorem where_walk (w : World) (hw : LW w) (c : PC) (r : PCR) (A : Option Addr) (n k : Nat) (l : List PR) (hn : l.length = n) (hl : RulesAt w A l) (hnk : n ≤ k) (name : ByteArray) :
    Calls Tryd.prog 4 #[cfgV c r, .slice A n k, .string name] w fun e w' => e = .returned (.bool true) ∧ Keeps [] w w' := by
  obtain ⟨CS, hCS⟩ : ∃ CS : List Value, CS = [.int .u32 c.inside, .int .u32 c.mask, .int .u32 c.outer, .int .u16 r.lo, .int .u16 r.hi, .int .u64 r.qu, .int .i64 r.fl, .slice r.wa r.wn r.wc, .int .i64 r.sn, .int .u16 r.ms, .int .i64 r.sc, .bool r.sk, .int .u64 r.ky, .slice r.ra r.rn r.rc, .slice r.fa r.fn r.fc, .int .u64 r.rt, .int .i64 r.tr, .int .u64 r.dl, .int .u64 r.wt] := ⟨_, rfl⟩
  have hcv : cfgV c r = .agg CS.toArray := by rw [hCS]; rfl
  obtain ⟨m, hm⟩ : ∃ m, (l.take 60).length = m := ⟨_, rfl⟩
  have hm1 : min (n : Int) 60 = m := by rw [← hm, ← hn]; simp; omega
  have hm2 : (m : Int) ≤ k := by omega
  have hm3 : (0 : Int) ≤ m := by omega
  have hcl : CS.length = 19 := by rw [hCS]; rfl
  have hrb := range_box w CS 29
  have hi19 : (Tryd.prog.info? 29).map (·.size) = some CS.length := by rw [hcl]; kernel_rfl
  have HLD := Lib.hid (fun (W : World) (kz : Keeps [] (w.alloc (.cells CS.toArray 29)) W) => run_loadAt_mid (P := Tryd.prog) W w.heap.size 0 29 CS _ (rangeAt_keeps kz hrb (by simp)) Tryd.underlying29 rfl hi19)
  have HI19 := Lib.hid hi19
  have k1 : Keeps [] w (w.alloc (.cells CS.toArray 29)) := Keeps.alloc [] w _
  have K1 := Lib.hid k1
  have HW := Lib.hid hw
  have HL := Lib.hid (hl.take 60)
  have HM := Lib.hid hm
  have HRB := Lib.hid hrb
  have HCS := Lib.hid hCS
  rw [hcv]
  have HNEW0 := Lib.hid (fun (W : World) (kz : Keeps [] w W) (h : mayL c (l.take 60) = false) => new_bad W (hw.keep0 kz) c r A m k (l.take 60) hm ((hl.take 60).keep0 kz) (by omega) h)
  have HNEW1 := Lib.hid (fun (W : World) (kz : Keeps [] w W) (h : mayL c (l.take 60) = true) => new_ok W (hw.keep0 kz) c r A m k (l.take 60) hm ((hl.take 60).keep0 kz) (by omega) h)
  rw [hcv] at HNEW0 HNEW1
  have HLW := Lib.hid (fun (W : World) (kz : Keeps [] w W) => hw.keep0 kz)
  have HWK := Lib.hid (fun (W : World) (kz : Keeps [] w W) => wakes_any W (hw.keep0 kz))
  clear hw hl hn hm hrb hcv hCS k1 hi19 hcl
  obtain ⟨zm, hzm⟩ : ∃ zm, mayL c (l.take 60) = zm := ⟨_, rfl⟩
  have HZ := Lib.hid hzm
  clear hzm
  cases zm with
  | false =>
    go_enter Tryd.func4, Tryd.ntmps4
    go_wp2_with fail
    refine wp_region_held_drew (S := fun w' => w'.rangeAt w.heap.size 0 CS) (by kernel_rfl) ?hS0 (fun hHeld => ?_)
    case hS0 => exact rangeAt_keeps (Keeps.refl [] _).drew' HRB.out (by simp)
    refine wpAnyH_take (i := 0) (oi := _) (v := .agg CS.toArray) rfl (by kernel_rfl) (by kernel_rfl) (by kernel_rfl) (fun _ _ _ h => h)
      (yieldsIf_load_mid (by rfl) 29 (.tmp 3) rfl w.heap.size 0 rfl CS _ (fun _ h => h) Tryd.underlying29 rfl HI19.out) (by assumption) ?_
    try simp only [List.getElem_toArray, List.getElem_cons_zero, List.getElem_cons_succ, Act.put, List.setIfInBounds_toArray, List.set_cons_zero, List.set_cons_succ]
    refine wpAnyH_take (i := 1) (oi := _) (v := ?v1) rfl (by kernel_rfl) (by kernel_rfl) (by kernel_rfl) (fun _ _ _ h => h) (Or.inl ⟨by rfl, ?hy1⟩) (by assumption) ?rest1
    case hy1 => (intro w hSw; (try dsimp only at hSw); go_simp; try (with_reducible rfl))
    try simp only [List.getElem_toArray, List.getElem_cons_zero, List.getElem_cons_succ, Act.put, List.setIfInBounds_toArray, List.set_cons_zero, List.set_cons_succ]
    refine wpAnyH_take (i := 2) (oi := _) (v := ?v2) rfl (by kernel_rfl) (by kernel_rfl) (by kernel_rfl) (fun _ _ _ h => h) (Or.inl ⟨by rfl, ?hy2⟩) (by assumption) ?rest2
    case hy2 => (intro w hSw; (try dsimp only at hSw); go_simp; try (with_reducible rfl))
    try simp only [List.getElem_toArray, List.getElem_cons_zero, List.getElem_cons_succ, Act.put, List.setIfInBounds_toArray, List.set_cons_zero, List.set_cons_succ]
    refine wpAnyH_take (i := 3) (oi := _) (v := ?v3) rfl (by kernel_rfl) (by kernel_rfl) (by kernel_rfl) (fun _ _ _ h => h) (Or.inl ⟨by rfl, ?hy3⟩) (by assumption) ?rest3
    case hy3 => (intro w hSw; (try dsimp only at hSw); go_simp; try (with_reducible rfl))
    try simp only [List.getElem_toArray, List.getElem_cons_zero, List.getElem_cons_succ, Act.put, List.setIfInBounds_toArray, List.set_cons_zero, List.set_cons_succ]
    refine wpAnyH_take (i := 4) (oi := _) (v := ?v4) rfl (by kernel_rfl) (by kernel_rfl) (by kernel_rfl) (fun _ _ _ h => h) (Or.inl ⟨by rfl, ?hy4⟩) (by assumption) ?rest4
    case hy4 => (intro w hSw; (try dsimp only at hSw); go_simp; try (with_reducible rfl))
    try simp only [List.getElem_toArray, List.getElem_cons_zero, List.getElem_cons_succ, Act.put, List.setIfInBounds_toArray, List.set_cons_zero, List.set_cons_succ]
    refine wpAnyH_take (i := 5) (oi := _) (v := ?v5) rfl (by kernel_rfl) (by kernel_rfl) (by kernel_rfl) (fun _ _ _ h => h) (Or.inl ⟨by rfl, ?hy5⟩) (by assumption) ?rest5
    case hy5 => (intro w hSw; (try dsimp only at hSw); go_simp; try (with_reducible rfl))
    try simp only [List.getElem_toArray, List.getElem_cons_zero, List.getElem_cons_succ, Act.put, List.setIfInBounds_toArray, List.set_cons_zero, List.set_cons_succ]
    refine wpAnyH_ready (rs := [6]) (by kernel_rfl) (by simp) ?_
    refine AllReadyH.cons (o := _) rfl (fun K hK => ?_) AllReadyH.nil
    simp only [List.getElem_toArray, List.getElem_cons_zero, List.getElem_cons_succ]
    go_simp
    refine (HNEW0.out _ K1.out.drew' HZ.out).mono ?_
    rintro e w2 ⟨rfl, k2⟩
    refine hK.out _ _ (rangeAt_keeps ((Keeps.refl [] _).drew'.trans k2) HRB.out (by simp)) (fun hHeld2 => ?_)
    clear hK K
    have K2 := Lib.hid (K1.out.drew'.trans k2)
    clear k2
    try simp only [List.getElem_toArray, List.getElem_cons_zero, List.getElem_cons_succ, Act.put, List.setIfInBounds_toArray, List.set_cons_zero, List.set_cons_succ]
    refine wpAnyH_take (i := 7) (oi := _) (v := ?v7) rfl (by kernel_rfl) (by kernel_rfl) (by kernel_rfl) (fun _ _ _ h => h) (Or.inl ⟨by rfl, ?hy7⟩) (by assumption) ?rest7
    case hy7 => (intro w hSw; (try dsimp only at hSw); go_simp; try (with_reducible rfl))
    try simp only [List.getElem_toArray, List.getElem_cons_zero, List.getElem_cons_succ, Act.put, List.setIfInBounds_toArray, List.set_cons_zero, List.set_cons_succ]
    refine wpAnyH_take (i := 8) (oi := _) (v := ?v8) rfl (by kernel_rfl) (by kernel_rfl) (by kernel_rfl) (fun _ _ _ h => h) (Or.inl ⟨by rfl, ?hy8⟩) (by assumption) ?rest8
    case hy8 => (intro w hSw; (try dsimp only at hSw); go_simp; try (with_reducible rfl))
    try simp only [List.getElem_toArray, List.getElem_cons_zero, List.getElem_cons_succ, Act.put, List.setIfInBounds_toArray, List.set_cons_zero, List.set_cons_succ]
    refine wpAnyH_take (i := 9) (oi := _) (v := ?v9) rfl (by kernel_rfl) (by kernel_rfl) (by kernel_rfl) (fun _ _ _ h => h) (Or.inl ⟨by rfl, ?hy9⟩) (by assumption) ?rest9
    case hy9 => (intro w hSw; (try dsimp only at hSw); go_simp; try (with_reducible rfl))
    try simp only [List.getElem_toArray, List.getElem_cons_zero, List.getElem_cons_succ, Act.put, List.setIfInBounds_toArray, List.set_cons_zero, List.set_cons_succ]
    refine wpAnyH_take (i := 10) (oi := _) (v := ?v10) rfl (by kernel_rfl) (by kernel_rfl) (by kernel_rfl) (fun _ _ _ h => h) (Or.inl ⟨by rfl, ?hy10⟩) (by assumption) ?rest10
    case hy10 => (intro w hSw; (try dsimp only at hSw); go_simp; try (with_reducible rfl))
    try simp only [List.getElem_toArray, List.getElem_cons_zero, List.getElem_cons_succ, Act.put, List.setIfInBounds_toArray, List.set_cons_zero, List.set_cons_succ]
    refine wpAnyH_take (i := 11) (oi := _) (v := ?v11) rfl (by kernel_rfl) (by kernel_rfl) (by kernel_rfl) (fun _ _ _ h => h) (Or.inl ⟨by rfl, ?hy11⟩) (by assumption) ?rest11
    case hy11 => (intro w hSw; (try dsimp only at hSw); go_simp; try (with_reducible rfl))
    try simp only [List.getElem_toArray, List.getElem_cons_zero, List.getElem_cons_succ, Act.put, List.setIfInBounds_toArray, List.set_cons_zero, List.set_cons_succ]
    refine wpAnyH_done (by kernel_rfl) ?_ _
    clear hHeld hHeld2
    go_wp2_with fail
    refine (HWK.out _ K2.out).mono ?_
    rintro e w3 ⟨rfl, k3⟩
    have K3 := Lib.hid (K2.out.trans k3)
    clear k3
    go_wp2_with fail
    go_ret
    exact ⟨rfl, K3.out⟩
  | true =>
    obtain ⟨o, ho⟩ : ∃ o, findT (tabL (l.take 60)) (foldB name) = o := ⟨_, rfl⟩
    have HO := Lib.hid ho
    have HLE := Lib.hid (mayL_leads HZ.out)
    clear ho
    go_enter Tryd.func4, Tryd.ntmps4
    go_wp2_with fail
    refine wp_region_held_drew (S := fun w' => w'.rangeAt w.heap.size 0 CS) (by kernel_rfl) ?hSb0 (fun hHeld => ?_)
    case hSb0 => exact rangeAt_keeps (Keeps.refl [] _).drew' HRB.out (by simp)
    refine wpAnyH_take (i := 0) (oi := _) (v := .agg CS.toArray) rfl (by kernel_rfl) (by kernel_rfl) (by kernel_rfl) (fun _ _ _ h => h)
      (yieldsIf_load_mid (by rfl) 29 (.tmp 3) rfl w.heap.size 0 rfl CS _ (fun _ h => h) Tryd.underlying29 rfl HI19.out) (by assumption) ?_
    try simp only [List.getElem_toArray, List.getElem_cons_zero, List.getElem_cons_succ, Act.put, List.setIfInBounds_toArray, List.set_cons_zero, List.set_cons_succ]
    refine wpAnyH_take (i := 1) (oi := _) (v := ?vb1) rfl (by kernel_rfl) (by kernel_rfl) (by kernel_rfl) (fun _ _ _ h => h) (Or.inl ⟨by rfl, ?hyb1⟩) (by assumption) ?restb1
    case hyb1 => (intro w hSw; (try dsimp only at hSw); go_simp; try (with_reducible rfl))
    try simp only [List.getElem_toArray, List.getElem_cons_zero, List.getElem_cons_succ, Act.put, List.setIfInBounds_toArray, List.set_cons_zero, List.set_cons_succ]
    refine wpAnyH_take (i := 2) (oi := _) (v := ?vb2) rfl (by kernel_rfl) (by kernel_rfl) (by kernel_rfl) (fun _ _ _ h => h) (Or.inl ⟨by rfl, ?hyb2⟩) (by assumption) ?restb2
    case hyb2 => (intro w hSw; (try dsimp only at hSw); go_simp; try (with_reducible rfl))
    try simp only [List.getElem_toArray, List.getElem_cons_zero, List.getElem_cons_succ, Act.put, List.setIfInBounds_toArray, List.set_cons_zero, List.set_cons_succ]
    refine wpAnyH_take (i := 3) (oi := _) (v := ?vb3) rfl (by kernel_rfl) (by kernel_rfl) (by kernel_rfl) (fun _ _ _ h => h) (Or.inl ⟨by rfl, ?hyb3⟩) (by assumption) ?restb3
    case hyb3 => (intro w hSw; (try dsimp only at hSw); go_simp; try (with_reducible rfl))
    try simp only [List.getElem_toArray, List.getElem_cons_zero, List.getElem_cons_succ, Act.put, List.setIfInBounds_toArray, List.set_cons_zero, List.set_cons_succ]
    refine wpAnyH_take (i := 4) (oi := _) (v := ?vb4) rfl (by kernel_rfl) (by kernel_rfl) (by kernel_rfl) (fun _ _ _ h => h) (Or.inl ⟨by rfl, ?hyb4⟩) (by assumption) ?restb4
    case hyb4 => (intro w hSw; (try dsimp only at hSw); go_simp; try (with_reducible rfl))
    try simp only [List.getElem_toArray, List.getElem_cons_zero, List.getElem_cons_succ, Act.put, List.setIfInBounds_toArray, List.set_cons_zero, List.set_cons_succ]
    refine wpAnyH_take (i := 5) (oi := _) (v := ?vb5) rfl (by kernel_rfl) (by kernel_rfl) (by kernel_rfl) (fun _ _ _ h => h) (Or.inl ⟨by rfl, ?hyb5⟩) (by assumption) ?restb5
    case hyb5 => (intro w hSw; (try dsimp only at hSw); go_simp; try (with_reducible rfl))
    try simp only [List.getElem_toArray, List.getElem_cons_zero, List.getElem_cons_succ, Act.put, List.setIfInBounds_toArray, List.set_cons_zero, List.set_cons_succ]
    refine wpAnyH_ready (rs := [6]) (by kernel_rfl) (by simp) ?_
    refine AllReadyH.cons (o := _) rfl (fun K hK => ?_) AllReadyH.nil
    simp only [List.getElem_toArray, List.getElem_cons_zero, List.getElem_cons_succ]
    go_simp
    refine (HNEW1.out _ K1.out.drew' HZ.out).mono ?_
    rintro e w2 ⟨tb, mb, rfl, ht2, k2, hs1, hs2⟩
    refine hK.out _ _ (rangeAt_keeps ((Keeps.refl [] _).drew'.trans k2) HRB.out (by simp)) (fun hHeld2 => ?_)
    clear hK K
    have K2 := Lib.hid (K1.out.drew'.trans k2)
    have HT2 := Lib.hid ht2
    have HB2 := Lib.hid (rangeAt_keeps ((Keeps.refl [] _).drew'.trans k2) HRB.out (by simp))
    clear k2 ht2 hs1 hs2
    try simp only [List.getElem_toArray, List.getElem_cons_zero, List.getElem_cons_succ, Act.put, List.setIfInBounds_toArray, List.set_cons_zero, List.set_cons_succ]
    refine wpAnyH_take (i := 7) (oi := _) (v := ?vb7) rfl (by kernel_rfl) (by kernel_rfl) (by kernel_rfl) (fun _ _ _ h => h) (Or.inl ⟨by rfl, ?hyb7⟩) (by assumption) ?restb7
    case hyb7 => (intro w hSw; (try dsimp only at hSw); go_simp; try (with_reducible rfl))
    try simp only [List.getElem_toArray, List.getElem_cons_zero, List.getElem_cons_succ, Act.put, List.setIfInBounds_toArray, List.set_cons_zero, List.set_cons_succ]
    refine wpAnyH_take (i := 8) (oi := _) (v := ?vb8) rfl (by kernel_rfl) (by kernel_rfl) (by kernel_rfl) (fun _ _ _ h => h) (Or.inl ⟨by rfl, ?hyb8⟩) (by assumption) ?restb8
    case hyb8 => (intro w hSw; (try dsimp only at hSw); go_simp; try (with_reducible rfl))
    try simp only [List.getElem_toArray, List.getElem_cons_zero, List.getElem_cons_succ, Act.put, List.setIfInBounds_toArray, List.set_cons_zero, List.set_cons_succ]
    refine wpAnyH_take (i := 9) (oi := _) (v := ?vb9) rfl (by kernel_rfl) (by kernel_rfl) (by kernel_rfl) (fun _ _ _ h => h) (Or.inl ⟨by rfl, ?hyb9⟩) (by assumption) ?restb9
    case hyb9 => (intro w hSw; (try dsimp only at hSw); go_simp; try (with_reducible rfl))
    try simp only [List.getElem_toArray, List.getElem_cons_zero, List.getElem_cons_succ, Act.put, List.setIfInBounds_toArray, List.set_cons_zero, List.set_cons_succ]
    refine wpAnyH_take (i := 10) (oi := _) (v := ?vb10) rfl (by kernel_rfl) (by kernel_rfl) (by kernel_rfl) (fun _ _ _ h => h) (Or.inl ⟨by rfl, ?hyb10⟩) (by assumption) ?restb10
    case hyb10 => (intro w hSw; (try dsimp only at hSw); go_simp; try (with_reducible rfl))
    try simp only [List.getElem_toArray, List.getElem_cons_zero, List.getElem_cons_succ, Act.put, List.setIfInBounds_toArray, List.set_cons_zero, List.set_cons_succ]
    refine wpAnyH_take (i := 11) (oi := _) (v := ?vb11) rfl (by kernel_rfl) (by kernel_rfl) (by kernel_rfl) (fun _ _ _ h => h) (Or.inl ⟨by rfl, ?hyb11⟩) (by assumption) ?restb11
    case hyb11 => (intro w hSw; (try dsimp only at hSw); go_simp; try (with_reducible rfl))
    try simp only [List.getElem_toArray, List.getElem_cons_zero, List.getElem_cons_succ, Act.put, List.setIfInBounds_toArray, List.set_cons_zero, List.set_cons_succ]
    refine wpAnyH_done (by kernel_rfl) ?_ _
    clear hHeld hHeld2
    go_wp2_with fail
    have HF := find_any _ (HLW.out _ K2.out) tb mb _ HT2.out name
    rw [HO.out] at HF
    have HFI := Lib.hid HF
    clear HF
    cases o with
    | none =>
      simp only [Option.getD_none, Option.isSome_none, encPR, zeroPR] at HFI
      refine HFI.out.mono ?_
      rintro e w3 ⟨rfl, k3⟩
      have K3 := Lib.hid (K2.out.trans k3)
      have HT3 := Lib.hid (HT2.out.keep0 k3)
      have HB3 := Lib.hid (rangeAt_keeps k3 HB2.out (by simp))
      clear k3 HT2 HB2 K2 HFI
      go_wp2_with fail
      refine calls_gn fun wg hwg => ?_
      have kg : Keeps [] w3 wg := by rw [hwg]; exact Keeps.alloc [] w3 _
      have hb1 : wg.heap[w3.heap.size]? = some (.cells #[.string ByteArray.empty, .bool false, .int .u32 0, .int .u16 0] 35 (0, 0)) := by rw [hwg]; exact (MapKept.heap_alloc w3 _).1
      obtain ⟨nb, hnb⟩ : ∃ nb, w3.heap.size = nb := ⟨_, rfl⟩
      rw [hnb] at hb1 ⊢
      have HG1 := Lib.hid hb1
      have KG := Lib.hid (K3.out.trans kg)
      have HTG := Lib.hid (HT3.out.keep0 kg)
      have HBG := Lib.hid (rangeAt_keeps kg HB3.out (by simp))
      clear hwg kg hb1 hnb HT3 HB3 K3
      have HWH := where_any wg (HLW.out _ KG.out) tb mb _ HTG.out name
      rw [HO.out] at HWH
      simp only [whereT] at HWH
      refine HWH.mono ?_
      clear HWH
      rintro e w5 ⟨rfl, k5⟩
      have c1 : w5.cell? ⟨nb, 1, none⟩ = some (.bool false) := cell_keeps k5 (cell_of_block HG1.out 1) (by simp)
      have c2 : w5.cell? ⟨nb, 2, none⟩ = some (.int .u32 0) := cell_keeps k5 (cell_of_block HG1.out 2) (by simp)
      have c3 : w5.cell? ⟨nb, 3, none⟩ = some (.int .u16 0) := cell_keeps k5 (cell_of_block HG1.out 3) (by simp)
      have hb5 := rangeAt_keeps k5 HBG.out (by simp)
      have d0 : w5.cell? ⟨w.heap.size, 0, none⟩ = some (.int .u32 c.inside) := by have := hb5 0 (.int .u32 c.inside) (by rw [HCS.out]; rfl); simpa using this
      have d1 : w5.cell? ⟨w.heap.size, 1, none⟩ = some (.int .u32 c.mask) := by have := hb5 1 (.int .u32 c.mask) (by rw [HCS.out]; rfl); simpa using this
      have d2 : w5.cell? ⟨w.heap.size, 2, none⟩ = some (.int .u32 c.outer) := by have := hb5 2 (.int .u32 c.outer) (by rw [HCS.out]; rfl); simpa using this
      have K5 := Lib.hid (KG.out.trans k5)
      clear k5 hb5 HBG HTG KG HG1
      go_wp2_with fail
      refine (HWK.out _ K5.out).mono ?_
      rintro e w6 ⟨rfl, k6⟩
      have K6 := Lib.hid (K5.out.trans k6)
      clear k6
      go_wp2_with fail
      go_ret
      exact ⟨by first | rfl | (simp; done), K6.out⟩
    | some x =>
      have hle := HLE.out x (findT_mem HO.out)
      obtain ⟨xn, xd, xa, xp⟩ := x
      simp only [Option.getD_some, Option.isSome_some, encPR] at HFI
      cases xd with
      | true =>
        clear hle
        refine HFI.out.mono ?_
        rintro e w3 ⟨rfl, k3⟩
        have K3 := Lib.hid (K2.out.trans k3)
        have HT3 := Lib.hid (HT2.out.keep0 k3)
        have HB3 := Lib.hid (rangeAt_keeps k3 HB2.out (by simp))
        clear k3 HT2 HB2 K2 HFI
        go_wp2_with fail
        refine calls_gn fun wg hwg => ?_
        have kg : Keeps [] w3 wg := by rw [hwg]; exact Keeps.alloc [] w3 _
        have hb1 : wg.heap[w3.heap.size]? = some (.cells #[.string xn, .bool true, .int .u32 xa, .int .u16 xp] 35 (0, 0)) := by rw [hwg]; exact (MapKept.heap_alloc w3 _).1
        obtain ⟨nb, hnb⟩ : ∃ nb, w3.heap.size = nb := ⟨_, rfl⟩
        rw [hnb] at hb1 ⊢
        have HG1 := Lib.hid hb1
        have KG := Lib.hid (K3.out.trans kg)
        have HTG := Lib.hid (HT3.out.keep0 kg)
        have HBG := Lib.hid (rangeAt_keeps kg HB3.out (by simp))
        clear hwg kg hb1 hnb HT3 HB3 K3
        have HWH := where_any wg (HLW.out _ KG.out) tb mb _ HTG.out name
        rw [HO.out] at HWH
        simp only [whereT, if_true] at HWH
        refine HWH.mono ?_
        clear HWH
        rintro e w5 ⟨rfl, k5⟩
        have c1 : w5.cell? ⟨nb, 1, none⟩ = some (.bool true) := cell_keeps k5 (cell_of_block HG1.out 1) (by simp)
        have c2 : w5.cell? ⟨nb, 2, none⟩ = some (.int .u32 xa) := cell_keeps k5 (cell_of_block HG1.out 2) (by simp)
        have c3 : w5.cell? ⟨nb, 3, none⟩ = some (.int .u16 xp) := cell_keeps k5 (cell_of_block HG1.out 3) (by simp)
        have hb5 := rangeAt_keeps k5 HBG.out (by simp)
        have d0 : w5.cell? ⟨w.heap.size, 0, none⟩ = some (.int .u32 c.inside) := by have := hb5 0 (.int .u32 c.inside) (by rw [HCS.out]; rfl); simpa using this
        have d1 : w5.cell? ⟨w.heap.size, 1, none⟩ = some (.int .u32 c.mask) := by have := hb5 1 (.int .u32 c.mask) (by rw [HCS.out]; rfl); simpa using this
        have d2 : w5.cell? ⟨w.heap.size, 2, none⟩ = some (.int .u32 c.outer) := by have := hb5 2 (.int .u32 c.outer) (by rw [HCS.out]; rfl); simpa using this
        have K5 := Lib.hid (KG.out.trans k5)
        clear k5 hb5 HBG HTG KG HG1
        go_wp2_with fail
        refine (HWK.out _ K5.out).mono ?_
        rintro e w6 ⟨rfl, k6⟩
        have K6 := Lib.hid (K5.out.trans k6)
        clear k6
        go_wp2_with fail
        go_ret
        exact ⟨by first | rfl | (simp; done), K6.out⟩
      | false =>
        have hle2 : (¬ xa = 0 ∧ ¬ xp = 0) ∧ ¬ xa = c.outer ∧ insideOf c xa = false := by
          simp [leadsOk] at hle
          exact ⟨hle.1.1, hle.1.2, hle.2⟩
        have HLE2 := Lib.hid hle2
        clear hle hle2
        refine HFI.out.mono ?_
        rintro e w3 ⟨rfl, k3⟩
        have K3 := Lib.hid (K2.out.trans k3)
        have HT3 := Lib.hid (HT2.out.keep0 k3)
        have HB3 := Lib.hid (rangeAt_keeps k3 HB2.out (by simp))
        clear k3 HT2 HB2 K2 HFI
        go_wp2_with fail
        refine calls_gn fun wg hwg => ?_
        have kg : Keeps [] w3 wg := by rw [hwg]; exact Keeps.alloc [] w3 _
        have hb1 : wg.heap[w3.heap.size]? = some (.cells #[.string xn, .bool false, .int .u32 xa, .int .u16 xp] 35 (0, 0)) := by rw [hwg]; exact (MapKept.heap_alloc w3 _).1
        obtain ⟨nb, hnb⟩ : ∃ nb, w3.heap.size = nb := ⟨_, rfl⟩
        rw [hnb] at hb1 ⊢
        have HG1 := Lib.hid hb1
        have KG := Lib.hid (K3.out.trans kg)
        have HTG := Lib.hid (HT3.out.keep0 kg)
        have HBG := Lib.hid (rangeAt_keeps kg HB3.out (by simp))
        clear hwg kg hb1 hnb HT3 HB3 K3
        have HWH := where_any wg (HLW.out _ KG.out) tb mb _ HTG.out name
        rw [HO.out] at HWH
        simp only [whereT, if_neg (by decide : ¬ (false = true))] at HWH
        refine HWH.mono ?_
        clear HWH
        rintro e w5 ⟨rfl, k5⟩
        have c1 : w5.cell? ⟨nb, 1, none⟩ = some (.bool false) := cell_keeps k5 (cell_of_block HG1.out 1) (by simp)
        have c2 : w5.cell? ⟨nb, 2, none⟩ = some (.int .u32 xa) := cell_keeps k5 (cell_of_block HG1.out 2) (by simp)
        have c3 : w5.cell? ⟨nb, 3, none⟩ = some (.int .u16 xp) := cell_keeps k5 (cell_of_block HG1.out 3) (by simp)
        have hb5 := rangeAt_keeps k5 HBG.out (by simp)
        have d0 : w5.cell? ⟨w.heap.size, 0, none⟩ = some (.int .u32 c.inside) := by have := hb5 0 (.int .u32 c.inside) (by rw [HCS.out]; rfl); simpa using this
        have d1 : w5.cell? ⟨w.heap.size, 1, none⟩ = some (.int .u32 c.mask) := by have := hb5 1 (.int .u32 c.mask) (by rw [HCS.out]; rfl); simpa using this
        have d2 : w5.cell? ⟨w.heap.size, 2, none⟩ = some (.int .u32 c.outer) := by have := hb5 2 (.int .u32 c.outer) (by rw [HCS.out]; rfl); simpa using this
        have K5 := Lib.hid (KG.out.trans k5)
        clear k5 hb5 HBG HTG KG HG1
        have h1 := HLE2.out.1.1
        have h2 := HLE2.out.1.2
        have h3 := HLE2.out.2.1
        have h4 : ¬ bits BinOp.and IntKind.u32 (bits BinOp.xor IntKind.u32 xa c.inside) c.mask = 0 := by
          have := HLE2.out.2.2
          unfold insideOf at this
          simpa using this
        have H4 := Lib.hid h4
        go_wp2_with fail
        refine (HWK.out _ K5.out).mono ?_
        rintro e w6 ⟨rfl, k6⟩
        have K6 := Lib.hid (K5.out.trans k6)
        clear k6
        go_wp2_with fail
        go_ret
        exact ⟨by simp; exact ⟨⟨HLE2.out.1, HLE2.out.2.1⟩, H4.out⟩, K6.out⟩
end Go.Proofs.YtbmkdnkiojapbaaDoor
