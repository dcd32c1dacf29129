/-
  The walks of tls.looker's extensions. Condition: the looker lies in memory as LkAt says.
-/
import Derived.Test.YtpoheemjdieogaaGreatDoorTlsU
namespace Go.Proofs.YtpoheemjdieogaaGreatDoor
open Go.RowKit Go.Lib
set_option linter.unusedVariables false
set_option linter.unusedSimpArgs false

section
variable {W0 : World} {B r lb g0 : Nat} {A : Option Addr} {m c : Nat} {bs : List UInt8} {es : List Nat} {e : Nat}
set_option maxRecDepth 100000 in
theorem ext2_any (w : World) (k n nb : Nat) (hn : n < 16777216) (h : w.cell? ⟨nb, 0, none⟩ = some (.int .i64 n)) : Calls Tryz.prog 149 #[.int .i64 k, .pointer (some ⟨nb, 0, none⟩)] w fun e w' => e = .returned (.bool (decide (0 < k ∧ (k : Int) = (n : Int) - 2))) ∧ w' = w := by
  by_cases h0 : 0 < k
  · have h0' : (0 : Int) < (k : Int) := by omega
    have hw : IntKind.i64.wrap ((n : Int) - 2) = (n : Int) - 2 := by rw [wrap_in] <;> omega
    have hw2 : wrap64 ((n : Int) - 2) = (n : Int) - 2 := by unfold wrap64; omega
    by_cases h1 : (k : Int) = (n : Int) - 2
    · have hb : ((k : Int) == (n : Int) - 2) = true := by simp [h1]
      rw [decide_eq_true ⟨h0, h1⟩]
      go_enter Tryz.func149, Tryz.ntmps149
      go_wp2_with fail
      go_ret
      exact ⟨rfl, rfl⟩
    · have hb : ((k : Int) == (n : Int) - 2) = false := by simp [h1]
      rw [decide_eq_false (fun hh => h1 hh.2)]
      go_enter Tryz.func149, Tryz.ntmps149
      go_wp2_with fail
      go_ret
      exact ⟨rfl, rfl⟩
  · have h0' : ¬ (0 : Int) < (k : Int) := by omega
    rw [decide_eq_false (fun hh => h0 hh.1)]
    go_enter Tryz.func149, Tryz.ntmps149
    go_wp2_with fail
    go_ret
    exact ⟨rfl, rfl⟩
set_option maxRecDepth 100000 in
set_option maxHeartbeats 8000000 in
theorem ext1_any (hx : Cxt W0 r lb g0 A m c bs) (hL : CxL W0 r lb g0) (hB : B ≤ W0.heap.size) (kb bx kind : Nat) (hbl : bx ≠ lb) (hkb : Box W0 r lb g0 kb (.int .i64 kind)) (hbx : Box W0 r lb g0 bx (.pointer (some ⟨lb, 0, none⟩))) (w : World) (s : LS) (h : LkAt W0 B r lb g0 A m c es e s w) (hes : es.length ≤ 48) (n : Nat) (hn : n < 16777216) :
    Calls Tryz.prog 148 #[.int .i64 n, .pointer (some ⟨kb, 0, none⟩), .pointer (some ⟨bx, 0, none⟩)] w fun en w' => Out W0 B r lb g0 A m c es e (extL bs kind n e s) en w' := by
  obtain ⟨res, hres⟩ : ∃ res, extL bs kind n e s = res := ⟨_, rfl⟩
  rw [hres]
  unfold extL at hres
  have H := Lib.hid h
  have HX := Lib.hid hx
  have HL := Lib.hid hL
  have HB := Lib.hid hB
  obtain ⟨nb, hnb⟩ : ∃ nb, w.heap.size = nb := ⟨_, rfl⟩
  obtain ⟨w1, hw1⟩ : ∃ w1, w.alloc (.cells #[.int .i64 n] 3) = w1 := ⟨_, rfl⟩
  have k1 : Keeps [] w w1 := by rw [← hw1]; exact Keeps.alloc [] w _
  obtain ⟨g1, hg1, hgs1, kp1, hx1, h1⟩ := h.rebase hx k1
  have hb1 : w1.cell? ⟨nb, 0, none⟩ = some (.int .i64 n) := by rw [← hw1, ← hnb]; exact cell_of_block (MapKept.heap_alloc w _).1 0
  have hwl : lb < w.heap.size := Nat.lt_of_lt_of_le hx.l0 h.kp.size
  have hwr : r < w.heap.size := Nat.lt_of_lt_of_le hx.r0 h.kp.size
  have HNB := Lib.hid (Box.at (r := r) (lb := lb) (g1 := g1) hb1 (by omega) (by omega) (by omega))
  have HKB := Lib.hid (hkb.rebase kp1 hg1)
  have HBX := Lib.hid (hbx.rebase kp1 hg1)
  have HX1 := Lib.hid hx1
  have H1 := Lib.hid h1
  have HL1 := Lib.hid (hL.rebase kp1 hg1)
  have HG1 := Lib.hid (And.intro kp1 hg1)
  have HB1 := Lib.hid (Nat.le_trans hB kp1.size)
  have ck : w1.cell? ⟨kb, 0, none⟩ = some (.int .i64 kind) := HKB.out w1 (Keeps.refl _ _)
  have cb : w1.cell? ⟨bx, 0, none⟩ = some (.pointer (some ⟨lb, 0, none⟩)) := HBX.out w1 (Keeps.refl _ _)
  have cn : w1.cell? ⟨nb, 0, none⟩ = some (.int .i64 n) := hb1
  clear h hx hL hB hkb hbx k1 hg1 hgs1 kp1 hx1 h1 hwl hwr hb1
  by_cases hk : kind ≠ 0
  · rw [if_pos hk] at hres
    have hk' : ((kind : Int) != 0) = true := by simp; omega
    have HSK := Lib.hid (skip_any HX1.out w1 s H1.out n (by omega))
    go_enter Tryz.func148, Tryz.ntmps148
    go_wp2_with fail
    cases hsk : skipL bs n e s with
    | error k =>
      rw [hsk] at HSK hres
      subst hres
      refine HSK.out.mono ?_
      rintro en w2 ⟨rfl, h2⟩
      have H2 := Lib.hid h2
      clear h2 HSK hsk
      go_wp2_with fail
      exact ⟨rfl, Out.back (x := .error k) HG1.out.1 HG1.out.2 ⟨rfl, H2.out⟩⟩
    | ok s' =>
      rw [hsk] at HSK hres
      subst hres
      refine HSK.out.mono ?_
      rintro en w2 ⟨rfl, h2⟩
      have H2 := Lib.hid h2
      clear h2 HSK hsk
      go_wp2_with fail
      go_end0
      exact Out.back (x := .ok s') HG1.out.1 HG1.out.2 ⟨rfl, H2.out⟩
  · rw [if_neg hk] at hres
    have hk0 : kind = 0 := by omega
    subst hk0
    clear hk
    obtain ⟨ev1, hlk1, hown1, hblk1⟩ := H1.out.lk
    have c4 : w1.cell? ⟨lb, 4, none⟩ = some (.bool s.seen) := cell_of_block hlk1 4
    have z4 : w1.frozen? ⟨lb, 4, none⟩ = false := free_of_block hlk1 4
    have HLK1 := Lib.hid (And.intro hlk1 (And.intro hown1 hblk1))
    clear hlk1 hown1 hblk1
    by_cases hse : s.seen = true
    · rw [if_pos hse] at hres
      subst hres
      rw [hse] at c4
      have HWY := Lib.hid (wrong_yes w1.drew s (H1.out.keep0 (Keeps.refl [] w1).drew'))
      go_enter Tryz.func148, Tryz.ntmps148
      go_wp2_with fail
      refine wp_region_held_drew (S := fun W => W.cell? ⟨bx, 0, none⟩ = some (.pointer (some ⟨lb, 0, none⟩)) ∧ W.cell? ⟨lb, 4, none⟩ = some (.bool true)) (by kernel_rfl) ?hS0 (fun hHeld => ?_)
      case hS0 => exact ⟨cb, c4⟩
      refine wpAnyH_take (i := 0) (oi := _) (v := ?v0) rfl (by kernel_rfl) (by kernel_rfl) (by kernel_rfl) (fun _ _ _ h => h) (Or.inl ⟨by rfl, ?hy0⟩) (by assumption) ?rest0
      case hy0 => (intro w hSw; (try dsimp only at hSw); obtain ⟨hSw1, hSw2⟩ := hSw; go_simp; try (with_reducible rfl))
      try simp only [List.getElem_toArray, List.getElem_cons_zero, List.getElem_cons_succ, Act.put, List.setIfInBounds_toArray, List.set_cons_zero, List.set_cons_succ]
      refine wpAnyH_take (i := 1) (oi := _) (v := ?v1) rfl (by kernel_rfl) (by kernel_rfl) (by kernel_rfl) (fun _ _ _ h => h) (Or.inl ⟨by rfl, ?hy1⟩) (by assumption) ?rest1
      case hy1 => (intro w hSw; (try dsimp only at hSw); obtain ⟨hSw1, hSw2⟩ := hSw; go_simp; try (with_reducible rfl))
      try simp only [List.getElem_toArray, List.getElem_cons_zero, List.getElem_cons_succ, Act.put, List.setIfInBounds_toArray, List.set_cons_zero, List.set_cons_succ]
      refine wpAnyH_take (i := 2) (oi := _) (v := ?v2) rfl (by kernel_rfl) (by kernel_rfl) (by kernel_rfl) (fun _ _ _ h => h) (Or.inl ⟨by rfl, ?hy2⟩) (by assumption) ?rest2
      case hy2 => (intro w hSw; (try dsimp only at hSw); obtain ⟨hSw1, hSw2⟩ := hSw; go_simp; try (with_reducible rfl))
      try simp only [List.getElem_toArray, List.getElem_cons_zero, List.getElem_cons_succ, Act.put, List.setIfInBounds_toArray, List.set_cons_zero, List.set_cons_succ]
      refine wpAnyH_take (i := 3) (oi := _) (v := ?v3) rfl (by kernel_rfl) (by kernel_rfl) (by kernel_rfl) (fun _ _ _ h => h) (Or.inl ⟨by rfl, ?hy3⟩) (by assumption) ?rest3
      case hy3 => (intro w hSw; (try dsimp only at hSw); obtain ⟨hSw1, hSw2⟩ := hSw; go_simp; try (with_reducible rfl))
      try simp only [List.getElem_toArray, List.getElem_cons_zero, List.getElem_cons_succ, Act.put, List.setIfInBounds_toArray, List.set_cons_zero, List.set_cons_succ]
      refine wpAnyH_take (i := 4) (oi := _) (v := ?v4) rfl (by kernel_rfl) (by kernel_rfl) (by kernel_rfl) (fun _ _ _ h => h) (Or.inl ⟨by rfl, ?hy4⟩) (by assumption) ?rest4
      case hy4 => (intro w hSw; (try dsimp only at hSw); obtain ⟨hSw1, hSw2⟩ := hSw; go_simp; try (with_reducible rfl))
      try simp only [List.getElem_toArray, List.getElem_cons_zero, List.getElem_cons_succ, Act.put, List.setIfInBounds_toArray, List.set_cons_zero, List.set_cons_succ]
      refine wpAnyH_ready (rs := [5]) (by kernel_rfl) (by simp) ?_
      refine AllReadyH.cons (o := _) rfl (fun K hK => ?_) AllReadyH.nil
      try simp only [List.getElem_toArray, List.getElem_cons_zero, List.getElem_cons_succ, Act.put, List.setIfInBounds_toArray, List.set_cons_zero, List.set_cons_succ]
      go_simp
      refine HWY.out.mono ?_
      rintro en w2 ⟨rfl, k2⟩
      have H2 := (H1.out.keep0 (Keeps.refl [] w1).drew').keep0 k2
      exact ⟨rfl, Out.back (x := .error eForm) HG1.out.1 HG1.out.2 ⟨rfl, H2.kp, _, H2.rd⟩⟩
    · rw [if_neg hse] at hres
      have hsf : s.seen = false := by cases hz : s.seen <;> simp_all
      rw [hsf] at c4
      have HWN := Lib.hid (wrong_no w1.drew (some ⟨lb, 0, none⟩))
      go_enter Tryz.func148, Tryz.ntmps148
      go_wp2_with fail
      go_region_held3 (fun W => W.cell? ⟨bx, 0, none⟩ = some (.pointer (some ⟨lb, 0, none⟩)) ∧ W.cell? ⟨lb, 4, none⟩ = some (.bool false)) (exact ⟨cb, c4⟩)
        (first | (go_at_call 84; refine HWN.out.mono ?_; rintro en w2 ⟨rfl, rfl⟩))
      go_wp2_with fail
      refine calls_gn fun w5 hw5 => ?_
      have hb5 := heap_setCell_self (w := w1) HLK1.out.1 4 (.bool true)
      have hb6 : w5.heap[lb]? = some (.cells #[.pointer (some ⟨r, 0, none⟩), ev1, .string s.name, .bool s.named, .bool true] 118 (0, 0)) := by rw [hw5]; exact (show (w1.setCell ⟨lb, 4, none⟩ (.bool true)).heap[lb]? = _ from by simpa using hb5)
      have kk : Keeps [lb] w1 w5 := by rw [hw5]; exact ((Keeps.setCell w1 ⟨lb, 4, none⟩ _).drew')
      have H5 : LkAt w1 B r lb g1 A m c es e { s with seen := true } w5 := {
        kp := kk.mono (by simp)
        rd := H1.out.rd.keep kk (by have := HX1.out.rl; simpa using this)
        lk := ⟨ev1, hb6, own_keepS HLK1.out.2.1 kk (fun j hj => by have h1 := HLK1.out.2.2 j hj; have h2 := HX1.out.lg; have h3 := HX1.out.l0; simp; omega), HLK1.out.2.2⟩
        top := H1.out.top
        lim := H1.out.lim
        le := H1.out.le }
      have HSO := Lib.hid (some_any HX1.out HB1.out w5 { s with seen := true } H5 2 (by omega) (by omega) (fun k _ => decide (0 < k ∧ (k : Int) = (n : Int) - 2)) (fun _ e' t => listL bs e' t) 149 150 #[] #[.pointer (some ⟨nb, 0, none⟩)] #[.pointer (some ⟨lb, 0, none⟩)] #[]
        (enters Tryz.func149 (by kernel_rfl) (by kernel_rfl)) (enters Tryz.func150 (by kernel_rfl) (by kernel_rfl))
        (fun v s' w' _ hl => (ext2_any w' v n nb hn (HNB.out w' hl.kp)).mono fun en w'' ⟨he, hw⟩ => ⟨he, by rw [hw]; exact Keeps.refl _ _⟩)
        (fun v s' w' _ hv hl => list_any HX1.out HL1.out HB1.out w' s' hl (by rw [List.length_append]; simp; omega) _))
      clear H5 kk hb6 hb5 hw5
      cases hso : someL bs 2 e (fun k _ => decide (0 < k ∧ (k : Int) = (n : Int) - 2)) (fun _ e' t => listL bs e' t) { s with seen := true } with
      | error k =>
        rw [hso] at hres HSO
        subst hres
        refine HSO.out.mono ?_
        rintro en w6 ⟨rfl, h6⟩
        have H6 := Lib.hid h6
        clear h6 HSO hso
        go_wp2_with fail
        exact ⟨rfl, Out.back (x := .error k) HG1.out.1 HG1.out.2 ⟨rfl, H6.out⟩⟩
      | ok s2 =>
        rw [hso] at hres HSO
        subst hres
        refine HSO.out.mono ?_
        rintro en w6 ⟨rfl, h6⟩
        have H6 := Lib.hid (Out.back (x := .ok s2) HG1.out.1 HG1.out.2 ⟨rfl, h6⟩)
        clear h6 HSO hso
        go_wp2_with fail
        go_end0
        exact H6.out
/-! ### the loop over the extensions -/
theorem extL_at {kind n e' : Nat} {s s' : LS} (h : extL bs kind n e' s = .ok s') : s.at_ ≤ s'.at_ := by
  unfold extL at h
  split at h
  · exact skipL_at h
  · split at h
    · cases h
    · have := someL_at (fun n e' t t' h => listG_at _ _ h) h
      simp only at this
      omega
theorem extG_fuel : ∀ (k1 k2 e : Nat) (s : LS), e - s.at_ ≤ k1 → e - s.at_ ≤ k2 → extG bs k1 e s = extG bs k2 e s
  | 0, 0, e, s, _, _ => rfl
  | 0, k2 + 1, e, s, h, _ => by rw [extG, extG, if_pos (.inl (by omega))]
  | k1 + 1, 0, e, s, _, h => by rw [extG, extG, if_pos (.inl (by omega))]
  | k1 + 1, k2 + 1, e, s, h1, h2 => by
    rw [extG, extG]
    by_cases h0 : e ≤ s.at_ ∨ s.named = true
    · rw [if_pos h0, if_pos h0]
    · rw [if_neg h0, if_neg h0]
      cases hn : numL bs 2 e s with
      | error c => rfl
      | ok p =>
        obtain ⟨v, s1⟩ := p
        try dsimp only
        cases hs : someL bs 2 e anyQ (fun n e' t => extL bs v n e' t) s1 with
        | error c => rfl
        | ok s2 =>
          have h3 := someL_at (fun n e' t t' h => extL_at h) hs
          have h4 := (numL_at hn).1
          exact extG_fuel k1 k2 e s2 (by omega) (by omega)
theorem extsL_step (e : Nat) (s : LS) : extsL bs e s = if e ≤ s.at_ ∨ s.named = true then .ok s else match numL bs 2 e s with
    | .error c => .error c
    | .ok (kind, s1) =>
      match someL bs 2 e anyQ (fun n e' t => extL bs kind n e' t) s1 with
      | .error c => .error c
      | .ok s2 => extsL bs e s2 := by
  by_cases h0 : e ≤ s.at_
  · rw [if_pos (.inl h0)]
    unfold extsL
    rw [show e - s.at_ = 0 by omega]
    rfl
  · unfold extsL
    obtain ⟨k, hk⟩ : ∃ k, e - s.at_ = k + 1 := ⟨e - s.at_ - 1, by omega⟩
    rw [hk, extG]
    by_cases h1 : e ≤ s.at_ ∨ s.named = true
    · rw [if_pos h1, if_pos h1]
    · rw [if_neg h1, if_neg h1]
      cases hn : numL bs 2 e s with
      | error c => rfl
      | ok p =>
        obtain ⟨v, s1⟩ := p
        try dsimp only
        cases hs : someL bs 2 e anyQ (fun n e' t => extL bs v n e' t) s1 with
        | error c => rfl
        | ok s2 =>
          have h3 := someL_at (fun n e' t t' h => extL_at h) hs
          have h4 := (numL_at hn).1
          exact extG_fuel k (e - s2.at_) e s2 (by omega) (by omega)
set_option maxRecDepth 100000 in
set_option maxHeartbeats 8000000 in
theorem exts_any (hx : Cxt W0 r lb g0 A m c bs) (hL : CxL W0 r lb g0) (hB : B ≤ W0.heap.size) (w : World) (s : LS) (h : LkAt W0 B r lb g0 A m c es e s w) (hes : es.length ≤ 46) (z : Value) :
    Calls Tryz.prog 127 #[.pointer (some ⟨lb, 0, none⟩), z] w fun en w' => Out W0 B r lb g0 A m c es e (extsL bs e s) en w' := by
  obtain ⟨res, hres⟩ : ∃ res, extsL bs e s = res := ⟨_, rfl⟩
  rw [hres]
  have HRES := Lib.hid hres
  have H := Lib.hid h
  have HX := Lib.hid hx
  have HL := Lib.hid hL
  have HB := Lib.hid hB
  clear h hx hL hB hres
  go_enter Tryz.func127, Tryz.ntmps127
  go_wp2_with fail
  obtain ⟨bx, hbx⟩ : ∃ bx, w.heap.size = bx := ⟨_, rfl⟩
  refine wp_gn fun w1 hw1 => ?_
  have k1 : Keeps [] w w1 := by rw [hw1]; exact Keeps.alloc [] w _
  obtain ⟨g1, hg1, hgs1, kp1, hx1, h1⟩ := H.out.rebase HX.out k1
  have hb1 : w1.cell? ⟨bx, 0, none⟩ = some (.pointer (some ⟨lb, 0, none⟩)) := by rw [hw1, ← hbx]; exact cell_of_block (MapKept.heap_alloc w _).1 0
  have hwl : lb < w.heap.size := Nat.lt_of_lt_of_le HX.out.l0 H.out.kp.size
  have hwr : r < w.heap.size := Nat.lt_of_lt_of_le HX.out.r0 H.out.kp.size
  have hBX := Lib.hid (Box.at (r := r) (lb := lb) (g1 := g1) hb1 (by omega) (by omega) (by omega))
  have HBL := Lib.hid (show bx ≠ lb by omega)
  have HX1 := Lib.hid hx1
  have H1 := Lib.hid h1
  have HL1 := Lib.hid (HL.out.rebase kp1 hg1)
  have HG1 := Lib.hid (And.intro kp1 hg1)
  have HB1 := Lib.hid (Nat.le_trans HB.out kp1.size)
  rw [hbx]
  clear k1 hg1 hgs1 kp1 hx1 h1 hb1 hwl hwr hw1 hbx
  go_loopw [4] (fun _ wr => ∃ si, LkAt w1 B r lb g1 A m c es e si wr ∧ extsL bs e si = res) (fun _ wr => e - atOf r wr)
  case atStart => exact ⟨s, H1.out, HRES.out⟩
  case round =>
    obtain ⟨si, hli, hri⟩ := hrel
    have HI := Lib.hid hli
    have c2 := hBX.out wr hli.kp
    have HLT := Lib.hid (lleft_any wr si hli)
    have HM := Lib.hid (atOf_rd hli.rd)
    rw [extsL_step] at hri
    clear hli HRES
    by_cases h0 : e ≤ si.at_
    · rw [if_pos (.inl h0)] at hri
      subst hri
      have h0' : e - si.at_ = 0 := by omega
      rw [h0'] at HLT
      go_wp2_with fail
      refine HLT.out.mono ?_
      rintro en w2 ⟨rfl, k2⟩
      have H2 := Lib.hid (HI.out.keep0 k2)
      clear k2 HLT
      go_wp2_with fail
      go_end0
      exact Out.back HG1.out.1 HG1.out.2 ⟨rfl, H2.out⟩
    · obtain ⟨d, hd⟩ : ∃ d, e - si.at_ = d := ⟨_, rfl⟩
      have hd0 : (0 : Int) < (d : Int) := by omega
      rw [hd] at HLT
      have HD := Lib.hid hd
      clear hd
      by_cases hnm : si.named = true
      · rw [if_pos (.inr hnm)] at hri
        subst hri
        go_wp2_with fail
        refine HLT.out.mono ?_
        rintro en w2 ⟨rfl, k2⟩
        have H2 := Lib.hid (HI.out.keep0 k2)
        have c2b := hBX.out w2 H2.out.kp
        obtain ⟨ev2, hlk2, _⟩ := H2.out.lk
        have c3 : w2.cell? ⟨lb, 3, none⟩ = some (.bool true) := by rw [← hnm]; exact cell_of_block hlk2 3
        clear k2 HLT c2 hlk2
        go_wp2_with fail
        go_end0
        exact Out.back HG1.out.1 HG1.out.2 ⟨rfl, H2.out⟩
      · rw [if_neg (by simp [h0, hnm])] at hri
        have hnf : si.named = false := by cases hz : si.named <;> simp_all
        go_wp2_with fail
        refine HLT.out.mono ?_
        rintro en w2 ⟨rfl, k2⟩
        have H2 := Lib.hid (HI.out.keep0 k2)
        have c2b := hBX.out w2 H2.out.kp
        obtain ⟨ev2, hlk2, _⟩ := H2.out.lk
        have c3 : w2.cell? ⟨lb, 3, none⟩ = some (.bool false) := by rw [← hnf]; exact cell_of_block hlk2 3
        have HNU := Lib.hid (number_any HX1.out w2 si H2.out 2 (by omega))
        clear k2 HLT c2 hlk2
        go_wp2_with fail
        cases hnum : numL bs 2 e si with
        | error k =>
          rw [hnum] at hri HNU
          subst hri
          refine HNU.out.mono ?_
          rintro en w3 ⟨rfl, hk⟩
          have HK := Lib.hid hk
          clear hk HNU hnum c3
          go_wp2_with fail
          exact ⟨rfl, Out.back HG1.out.1 HG1.out.2 ⟨rfl, HK.out⟩⟩
        | ok p =>
          obtain ⟨kind, s1⟩ := p
          rw [hnum] at hri HNU
          have HAT := Lib.hid (numL_at hnum)
          simp only at hri
          refine HNU.out.mono ?_
          rintro en w3 ⟨rfl, h3⟩
          have H3 := Lib.hid h3
          have c2c := hBX.out w3 h3.kp
          have hca : ∀ o, (w3.alloc o).cell? ⟨bx, 0, none⟩ = some (.pointer (some ⟨lb, 0, none⟩)) := fun o => cell_keeps (Keeps.alloc [] w3 o) c2c (by simp)
          clear h3 HNU c2b hnum c3
          go_wp2_with fail
          obtain ⟨kb, hkb⟩ : ∃ kb, w3.heap.size = kb := ⟨_, rfl⟩
          refine calls_gn fun w4 hw4 => ?_
          have k4 : Keeps [] w3 w4 := by rw [hw4]; exact Keeps.alloc [] w3 _
          obtain ⟨g2, hg2, hgs2, kp2, hx2, h2⟩ := H3.out.rebase HX1.out k4
          have hb4 : w4.cell? ⟨kb, 0, none⟩ = some (.int .i64 kind) := by rw [hw4, ← hkb]; exact cell_of_block (MapKept.heap_alloc w3 _).1 0
          have hwl : lb < w3.heap.size := Nat.lt_of_lt_of_le HX1.out.l0 H3.out.kp.size
          have hwr : r < w3.heap.size := Nat.lt_of_lt_of_le HX1.out.r0 H3.out.kp.size
          have hBX2 := hBX.out.rebase kp2 hg2
          have hKB2 := Box.at (r := r) (lb := lb) (g1 := g2) hb4 (by omega) (by omega) (by omega)
          have hL2 := HL1.out.rebase kp2 hg2
          have hB2 : B ≤ w4.heap.size := Nat.le_trans HB1.out kp2.size
          rw [hkb]
          have HSO := Lib.hid (some_any hx2 hB2 w4 s1 h2 2 (by omega) (by omega) anyQ (fun n e' t => extL bs kind n e' t) 87 148 #[] #[] #[] #[.pointer (some ⟨kb, 0, none⟩), .pointer (some ⟨bx, 0, none⟩)]
            (enters Tryz.func87 (by kernel_rfl) (by kernel_rfl)) (enters Tryz.func148 (by kernel_rfl) (by kernel_rfl))
            (fun v s' w' _ _ => (any_any w' v).mono fun en w'' ⟨he, hw⟩ => ⟨he, by rw [hw]; exact Keeps.refl _ _⟩)
            (fun v s' w' hv16 hv hl => ext1_any hx2 hL2 hB2 kb bx kind HBL.out hKB2 hBX2 w' s' hl (by rw [List.length_append]; simp; omega) v hv16))
          have HG2 := Lib.hid (And.intro kp2 hg2)
          clear k4 hg2 hgs2 kp2 hx2 h2 hb4 hwl hwr hBX2 hKB2 hL2 hB2 hw4 hca c2c
          cases hso : someL bs 2 e anyQ (fun n e' t => extL bs kind n e' t) s1 with
          | error k =>
            rw [hso] at hri HSO
            subst hri
            refine HSO.out.mono ?_
            rintro en w5 ⟨rfl, h5⟩
            have H5 := Lib.hid h5
            clear h5 HSO hso
            go_wp2_with fail
            exact ⟨rfl, Out.back HG1.out.1 HG1.out.2 (Out.back HG2.out.1 HG2.out.2 ⟨rfl, H5.out⟩)⟩
          | ok s2 =>
            rw [hso] at hri HSO
            have h23 := someL_at (fun n e' t t' h => extL_at h) hso
            refine HSO.out.mono ?_
            rintro en w5 ⟨rfl, h5⟩
            have H5 := Lib.hid (Out.back (x := .ok s2) HG2.out.1 HG2.out.2 ⟨rfl, h5⟩)
            clear h5 HSO hso
            go_wp2_with fail
            refine ⟨⟨s2, H5.out.2, hri⟩, ?_⟩
            rw [atOf_rd H5.out.2.rd, HM.out]
            have := HAT.out.1
            omega
end
end Go.Proofs.YtpoheemjdieogaaGreatDoor
