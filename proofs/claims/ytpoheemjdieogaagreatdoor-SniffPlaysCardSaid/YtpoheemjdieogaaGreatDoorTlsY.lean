/-
  The walk of tls.Look's closure: a hello's bytes. Condition: the looker and the reader lie in memory as at its beginning.
-/
import Derived.Test.YtpoheemjdieogaaGreatDoorTlsB
namespace Go.Proofs.YtpoheemjdieogaaGreatDoor
open Go.RowKit Go.Lib
set_option linter.unusedVariables false
set_option linter.unusedSimpArgs false

/-- how the closure ends -/
def LookOut (w : World) (r lb g0 : Nat) (bv : Value) (x : Except Int LS) (en : Ending) (w' : World) : Prop :=
  Keeps [r, lb, g0] w w' ∧ (∃ a, RdAt w' r bv a) ∧ match x with
  | .ok s' => en = .returned (.tuple #[]) ∧ ∃ ev, LkB w' r lb ev s'
  | .error k => en = .panicked (gu r k)
theorem Out.look {W0 w1 w' : World} {B r lb g0 : Nat} {A : Option Addr} {m c : Nat} {es : List Nat} {e : Nat} {x : Except Int LS} {en : Ending} (h : Out w1 B r lb g0 A m c es e x en w') (k : Keeps [r, lb, g0] W0 w1) : LookOut W0 r lb g0 (.slice A m c) x en w' := by
  cases x with
  | error c => exact ⟨k.trans h.2.1, h.2.2, h.1⟩
  | ok s =>
    obtain ⟨ev, h1, _⟩ := h.2.lk
    exact ⟨k.trans h.2.kp, ⟨_, h.2.rd⟩, h.1, ev, h1⟩
set_option maxRecDepth 100000 in
set_option maxHeartbeats 8000000 in
theorem look1_any (w : World) (r lb g0 vb : Nat) (A : Option Addr) (m c : Nat) (bs : List UInt8) (hvb : w.cell? ⟨vb, 0, none⟩ = some (.pointer (some ⟨lb, 0, none⟩)))
    (hlb : w.heap[lb]? = some (.cells #[.pointer none, .slice (some ⟨g0, 0, none⟩) 1 1, .string ByteArray.empty, .bool false, .bool false] 118 (0, 0))) (hg : w.heap[g0]? = some (.cells #[.int .i64 1073741824] 3 (0, 0)))
    (hr : RdAt w r (.slice A m c) 0) (hbs : ∀ w', Keeps [r, lb, g0] w w' → BytesV w' (.slice A m c) bs) (hL : CxL w r lb g0) (hm : m ≤ 100000) (hbl : bs.length = m) (h1 : r ≠ lb) (h2 : r ≠ g0) (h3 : lb ≠ g0) (h4 : vb ≠ r) (h5 : vb ≠ lb) (h6 : vb ≠ g0) :
    Calls Tryz.prog 83 #[.pointer (some ⟨r, 0, none⟩), .pointer (some ⟨vb, 0, none⟩)] w fun en w' => LookOut w r lb g0 (.slice A m c) (lookM bs) en w' := by
  obtain ⟨res, hres⟩ : ∃ res, lookM bs = res := ⟨_, rfl⟩
  rw [hres]
  unfold lookM at hres
  obtain ⟨w1, hw1⟩ : ∃ w1, w.setCell ⟨lb, 0, none⟩ (.pointer (some ⟨r, 0, none⟩)) = w1 := ⟨_, rfl⟩
  have k1 : Keeps [lb] w w1 := by rw [← hw1]; exact Keeps.setCell w ⟨lb, 0, none⟩ _
  have k1' : Keeps [r, lb, g0] w w1 := k1.mono (by simp)
  have hlb1 : w1.heap[lb]? = some (.cells #[.pointer (some ⟨r, 0, none⟩), .slice (some ⟨g0, 0, none⟩) 1 1, .string ByteArray.empty, .bool false, .bool false] 118 (0, 0)) := by rw [← hw1]; simpa using heap_setCell_self hlb 0 (.pointer (some ⟨r, 0, none⟩))
  have hg1 : w1.heap[g0]? = some (.cells #[.int .i64 1073741824] 3 (0, 0)) := (k1.block g0 (lt_of_block hg) (by simpa using (fun h => h3 h.symm))).trans hg
  have hr1 : RdAt w1 r (.slice A m c) 0 := hr.keep k1 (by simpa using h1)
  have HX := Lib.hid (show Cxt w1 r lb g0 A m c bs from { by_ := fun w' k => hbs w' (k1'.trans k), len := hm, bl := hbl, rl := h1, rg := h2, lg := h3, r0 := lt_of_block hr1, l0 := lt_of_block hlb1, gs := lt_of_block hg1 })
  have HL := Lib.hid (show CxL w1 r lb g0 from fun w' k => hL w' (k1'.trans k))
  have H1 := Lib.hid (show LkAt w1 0 r lb g0 A m c [] e0 ls0 w1 from { kp := Keeps.refl _ _, rd := hr1, lk := ⟨_, hlb1, ⟨rfl, .inr ⟨g0, 1, #[.int .i64 1073741824], rfl, Nat.zero_le _, hg1, Nat.le_refl _, by simp [maxLen], rfl, rfl⟩⟩, fun j hj => .inl (by injection hj with hj; exact hj.symm)⟩, top := Nat.zero_le _, lim := by unfold e0; omega, le := Nat.zero_le _ })
  have HVB := Lib.hid (Box.at (r := r) (lb := lb) (g1 := g0) (cell_keeps k1 hvb (by simpa using h5)) h4 h5 h6)
  have cb := HVB.out w1 (Keeps.refl _ _)
  have HK1 := Lib.hid k1'
  have c0 : w.cell? ⟨lb, 0, none⟩ = some (.pointer none) := cell_of_block hlb 0
  have z0 : w.frozen? ⟨lb, 0, none⟩ = false := free_of_block hlb 0
  have HNU := Lib.hid (number_any HX.out w1.drew ls0 (H1.out.keep0 (Keeps.refl [] w1).drew') 1 (by omega))
  clear k1 k1' hlb1 hg1 hr1 hlb hg hr hbs hL h1 h2 h3 h4 h5 h6
  go_enter Tryz.func83, Tryz.ntmps83
  go_wp2_with fail
  refine wp_region_held_drew (S := fun W => W.cell? ⟨vb, 0, none⟩ = some (.pointer (some ⟨lb, 0, none⟩))) (by kernel_rfl) ?hS0 (fun hHeld => ?_)
  case hS0 => exact cb
  refine wpAnyH_take (i := 0) (oi := _) (v := ?va) rfl (by kernel_rfl) (by kernel_rfl) (by kernel_rfl) (fun _ _ _ h => h) (Or.inl ⟨by rfl, ?hya⟩) (by assumption) ?resta
  case hya => (intro w hSw; (try dsimp only at hSw); go_simp; try (with_reducible rfl))
  try simp only [List.getElem_toArray, List.getElem_cons_zero, List.getElem_cons_succ, Act.put, List.setIfInBounds_toArray, List.set_cons_zero, List.set_cons_succ]
  refine wpAnyH_take (i := 1) (oi := _) (v := ?vb) rfl (by kernel_rfl) (by kernel_rfl) (by kernel_rfl) (fun _ _ _ h => h) (Or.inl ⟨by rfl, ?hyb⟩) (by assumption) ?restb
  case hyb => (intro w hSw; (try dsimp only at hSw); go_simp; try (with_reducible rfl))
  try simp only [List.getElem_toArray, List.getElem_cons_zero, List.getElem_cons_succ, Act.put, List.setIfInBounds_toArray, List.set_cons_zero, List.set_cons_succ]
  refine wpAnyH_ready (rs := [2]) (by kernel_rfl) (by simp) ?_
  refine AllReadyH.cons (o := _) rfl (fun K hK => ?_) AllReadyH.nil
  try simp only [List.getElem_toArray, List.getElem_cons_zero, List.getElem_cons_succ, Act.put, List.setIfInBounds_toArray, List.set_cons_zero, List.set_cons_succ]
  go_simp
  cases hnum : numL bs 1 e0 ls0 with
  | error k =>
    rw [hnum] at hres HNU
    subst hres
    refine HNU.out.mono ?_
    rintro en w2 ⟨rfl, hk⟩
    exact ⟨rfl, HK1.out.trans hk.1, hk.2, rfl⟩
  | ok p =>
    obtain ⟨v, s1⟩ := p
    rw [hnum] at hres HNU
    simp only at hres
    refine HNU.out.mono ?_
    rintro en w2 ⟨rfl, h2⟩
    have H2 := Lib.hid h2
    have cb2 := HVB.out w2 h2.kp
    clear h2 HNU hnum cb
    refine hK.out _ _ cb2 (fun hHeld2 => ?_)
    clear hK K
    try simp only [List.getElem_toArray, List.getElem_cons_zero, List.getElem_cons_succ, Act.put, List.setIfInBounds_toArray, List.set_cons_zero, List.set_cons_succ]
    by_cases hv : v ≠ 1
    · rw [if_pos hv] at hres
      subst hres
      have hv' : ((v : Int) != 1) = true := by simp; omega
      have HWY := Lib.hid (wrong_yes w2 s1 H2.out)
      refine wpAnyH_take (i := 3) (oi := _) (v := ?vc) rfl (by kernel_rfl) (by kernel_rfl) (by kernel_rfl) (fun _ _ _ h => h) (Or.inl ⟨by rfl, ?hyc⟩) (by assumption) ?restc
      case hyc => (intro w hSw; (try dsimp only at hSw); go_simp; try (with_reducible rfl))
      try simp only [List.getElem_toArray, List.getElem_cons_zero, List.getElem_cons_succ, Act.put, List.setIfInBounds_toArray, List.set_cons_zero, List.set_cons_succ]
      refine wpAnyH_ready (rs := [4]) (by kernel_rfl) (by simp) ?_
      refine AllReadyH.cons (o := _) rfl (fun K hK => ?_) AllReadyH.nil
      try simp only [List.getElem_toArray, List.getElem_cons_zero, List.getElem_cons_succ, Act.put, List.setIfInBounds_toArray, List.set_cons_zero, List.set_cons_succ]
      go_simp
      refine HWY.out.mono ?_
      rintro en w3 ⟨rfl, k3⟩
      have H3 := H2.out.keep0 k3
      exact ⟨rfl, HK1.out.trans H3.kp, ⟨_, H3.rd⟩, rfl⟩
    · rw [if_neg hv] at hres
      have hv1 : v = 1 := by omega
      have hv' : ((v : Int) != 1) = false := by simp; omega
      have HWN := Lib.hid (wrong_no w2 (some ⟨lb, 0, none⟩))
      refine wpAnyH_take (i := 3) (oi := _) (v := ?vd) rfl (by kernel_rfl) (by kernel_rfl) (by kernel_rfl) (fun _ _ _ h => h) (Or.inl ⟨by rfl, ?hyd⟩) (by assumption) ?restd
      case hyd => (intro w hSw; (try dsimp only at hSw); go_simp; try (with_reducible rfl))
      try simp only [List.getElem_toArray, List.getElem_cons_zero, List.getElem_cons_succ, Act.put, List.setIfInBounds_toArray, List.set_cons_zero, List.set_cons_succ]
      refine wpAnyH_ready (rs := [4]) (by kernel_rfl) (by simp) ?_
      refine AllReadyH.cons (o := _) rfl (fun K hK => ?_) AllReadyH.nil
      try simp only [List.getElem_toArray, List.getElem_cons_zero, List.getElem_cons_succ, Act.put, List.setIfInBounds_toArray, List.set_cons_zero, List.set_cons_succ]
      go_simp
      refine HWN.out.mono ?_
      rintro en w3 ⟨rfl, rfl⟩
      refine hK.out _ _ cb2 (fun hHeld3 => ?_)
      clear hK K
      try simp only [List.getElem_toArray, List.getElem_cons_zero, List.getElem_cons_succ, Act.put, List.setIfInBounds_toArray, List.set_cons_zero, List.set_cons_succ]
      refine wpAnyH_done (by kernel_rfl) ?_ _
      have HSO := Lib.hid (some_any HX.out (Nat.zero_le _) w3 s1 H2.out 3 (by omega) (by simp) anyQ (fun _ e' t => bodyL bs e' t) 87 88 #[] #[] #[.pointer (some ⟨lb, 0, none⟩)] #[]
        (enters Tryz.func87 (by kernel_rfl) (by kernel_rfl)) (enters Tryz.func88 (by kernel_rfl) (by kernel_rfl))
        (fun v s' w' _ _ => (any_any w' v).mono fun en w'' ⟨he, hw⟩ => ⟨he, by rw [hw]; exact Keeps.refl _ _⟩)
        (fun v s' w' hv16 hv hl => body_any HX.out HL.out (Nat.zero_le _) w' s' hl (by simp) _))
      go_wp2_with fail
      obtain ⟨x, hx⟩ : ∃ x, someL bs 3 e0 anyQ (fun _ e' t => bodyL bs e' t) s1 = x := ⟨_, rfl⟩
      rw [hx] at hres HSO
      subst hres
      cases x with
      | error k =>
        refine HSO.out.mono ?_
        rintro en w4 h4
        have H4 := Lib.hid (Out.look h4 HK1.out)
        obtain ⟨rfl, _⟩ := h4
        clear HSO hx
        go_wp2_with fail
        exact ⟨rfl, H4.out⟩
      | ok s2 =>
        refine HSO.out.mono ?_
        rintro en w4 h4
        have H4 := Lib.hid (Out.look h4 HK1.out)
        obtain ⟨rfl, _⟩ := h4
        clear HSO hx
        go_wp2_with fail
        go_end0
        exact H4.out
end Go.Proofs.YtpoheemjdieogaaGreatDoor
