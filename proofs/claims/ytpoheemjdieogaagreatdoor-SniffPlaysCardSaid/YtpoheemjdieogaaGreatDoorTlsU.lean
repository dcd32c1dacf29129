/-
  The walk of tls.looker's list: the names. Condition: the looker lies in memory as LkAt says.
-/
import Derived.Test.YtpoheemjdieogaaGreatDoorTlsT
namespace Go.Proofs.YtpoheemjdieogaaGreatDoor
open Go.RowKit Go.Lib
set_option linter.unusedVariables false
set_option linter.unusedSimpArgs false

/-! ### how far -/
theorem numL_at {bs : List UInt8} {size e v : Nat} {s s' : LS} (h : numL bs size e s = .ok (v, s')) : s'.at_ = s.at_ + size ∧ size ≤ e - s.at_ ∧ s'.named = s.named ∧ s'.seen = s.seen := by
  unfold numL at h
  split at h
  · cases h
  · unfold getL at h
    by_cases hs : bs.length - s.at_ < size
    · rw [if_pos hs] at h; cases h
    · rw [if_neg hs] at h
      injection h with h
      injection h with _ h
      subst h
      exact ⟨rfl, by omega, rfl, rfl⟩
theorem getL_at {bs : List UInt8} {n : Nat} {s : LS} {p : List UInt8 × LS} (h : getL bs n s = .ok p) : s.at_ ≤ p.2.at_ := by
  unfold getL at h
  split at h
  · cases h
  · injection h with h
    subst h
    show s.at_ ≤ s.at_ + n
    omega
theorem someL_at {bs : List UInt8} {size e : Nat} {okf : Nat → Nat → Bool} {within : Nat → Nat → LS → Except Int LS} {s s' : LS} (hw : ∀ n e' t t', within n e' t = .ok t' → t.at_ ≤ t'.at_) (h : someL bs size e okf within s = .ok s') : s.at_ + size ≤ s'.at_ := by
  unfold someL at h
  cases hn : numL bs size e s with
  | error c => rw [hn] at h; cases h
  | ok p =>
    obtain ⟨v, s1⟩ := p
    rw [hn] at h
    simp only at h
    split at h
    · have := hw _ _ _ _ h
      have := (numL_at hn).1
      omega
    · cases h
theorem nameL_at {bs : List UInt8} {sort n : Nat} {s s' : LS} (h : nameL bs sort n s = .ok s') : s.at_ ≤ s'.at_ := by
  unfold nameL at h
  cases hg : getL bs n s with
  | error c => rw [hg] at h; cases h
  | ok p =>
    have := getL_at hg
    obtain ⟨b, s1⟩ := p
    rw [hg] at h
    simp only at h this
    split at h
    · injection h with h; subst h; exact this
    · split at h
      · cases h
      · injection h with h; subst h; exact this
theorem skipL_at {bs : List UInt8} {n e : Nat} {s s' : LS} (h : skipL bs n e s = .ok s') : s.at_ ≤ s'.at_ := by
  unfold skipL at h
  split at h
  · cases h
  · cases hg : getL bs n s with
    | error c => rw [hg] at h; cases h
    | ok p =>
      have := getL_at hg
      rw [hg] at h
      injection h with h; subst h; exact this
theorem listG_fuel (bs : List UInt8) : ∀ (k1 k2 e : Nat) (s : LS), e - s.at_ ≤ k1 → e - s.at_ ≤ k2 → listG bs k1 e s = listG bs k2 e s
  | 0, 0, e, s, _, _ => rfl
  | 0, k2 + 1, e, s, h, _ => by rw [listG, listG, if_pos (by omega)]
  | k1 + 1, 0, e, s, _, h => by rw [listG, listG, if_pos (by omega)]
  | k1 + 1, k2 + 1, e, s, h1, h2 => by
    rw [listG, listG]
    by_cases h0 : e ≤ s.at_
    · rw [if_pos h0, if_pos h0]
    · rw [if_neg h0, if_neg h0]
      cases hn : numL bs 1 e s with
      | error c => rfl
      | ok p =>
        obtain ⟨v, s1⟩ := p
        try dsimp only
        cases hs : someL bs 2 e anyQ (fun n _ t => nameL bs v n t) s1 with
        | error c => rfl
        | ok s2 =>
          have h3 := someL_at (fun n e' t t' h => nameL_at h) hs
          have h4 := (numL_at hn).1
          exact listG_fuel bs k1 k2 e s2 (by omega) (by omega)
theorem listL_step (bs : List UInt8) (e : Nat) (s : LS) : listL bs e s = if e ≤ s.at_ then .ok s else match numL bs 1 e s with
    | .error c => .error c
    | .ok (sort, s1) =>
      match someL bs 2 e anyQ (fun n _ t => nameL bs sort n t) s1 with
      | .error c => .error c
      | .ok s2 => listL bs e s2 := by
  by_cases h0 : e ≤ s.at_
  · rw [if_pos h0]
    unfold listL
    rw [show e - s.at_ = 0 by omega]
    rfl
  · rw [if_neg h0]
    unfold listL
    obtain ⟨k, hk⟩ : ∃ k, e - s.at_ = k + 1 := ⟨e - s.at_ - 1, by omega⟩
    rw [hk, listG, if_neg h0]
    cases hn : numL bs 1 e s with
    | error c => rfl
    | ok p =>
      obtain ⟨v, s1⟩ := p
      try dsimp only
      cases hs : someL bs 2 e anyQ (fun n _ t => nameL bs v n t) s1 with
      | error c => rfl
      | ok s2 =>
        have h3 := someL_at (fun n e' t t' h => nameL_at h) hs
        have h4 := (numL_at hn).1
        exact listG_fuel bs k (e - s2.at_) e s2 (by omega) (by omega)
theorem listG_at {bs : List UInt8} : ∀ (k e : Nat) {s s' : LS}, listG bs k e s = .ok s' → s.at_ ≤ s'.at_
  | 0, e, s, s', h => by rw [listG] at h; injection h with h; subst h; exact Nat.le_refl _
  | k + 1, e, s, s', h => by
    rw [listG] at h
    by_cases h0 : e ≤ s.at_
    · rw [if_pos h0] at h; injection h with h; subst h; exact Nat.le_refl _
    · rw [if_neg h0] at h
      cases hn : numL bs 1 e s with
      | error c => rw [hn] at h; cases h
      | ok p =>
        obtain ⟨v, s1⟩ := p
        rw [hn] at h
        simp only at h
        cases hs : someL bs 2 e anyQ (fun n _ t => nameL bs v n t) s1 with
        | error c => rw [hs] at h; cases h
        | ok s2 =>
          rw [hs] at h
          have h3 := someL_at (fun n e' t t' h => nameL_at h) hs
          have h4 := (numL_at hn).1
          have := listG_at k e h
          omega
theorem Box.at {w1 : World} {r lb g1 b : Nat} {v : Value} (hb : w1.cell? ⟨b, 0, none⟩ = some v) (h1 : b ≠ r) (h2 : b ≠ lb) (h3 : b ≠ g1) : Box w1 r lb g1 b v := fun w k => cell_keeps k hb (by simp; omega)
theorem Box.rebase {W0 w1 : World} {r lb g0 g1 b : Nat} {v : Value} (h : Box W0 r lb g0 b v) (k : Keeps [r, lb, g0] W0 w1) (hg : g1 = g0 ∨ W0.heap.size ≤ g1) : Box w1 r lb g1 b v := fun w k1 => h w (keeps_back k hg k1)
/-- where a reader stands -/
def atOf (r : Nat) (w : World) : Nat := match w.cell? ⟨r, 1, none⟩ with
  | some (.int _ z) => z.toNat
  | _ => 0
theorem atOf_rd {w : World} {r a : Nat} {bv : Value} (h : RdAt w r bv a) : atOf r w = a := by
  have h1 : w.cell? ⟨r, 1, none⟩ = some (.int .i64 a) := cell_of_block h 1
  unfold atOf
  rw [h1]
  simp
section
variable {W0 : World} {B r lb g0 : Nat} {A : Option Addr} {m c : Nat} {bs : List UInt8} {es : List Nat} {e : Nat}
set_option maxRecDepth 100000 in
set_option maxHeartbeats 8000000 in
theorem list_any (hx : Cxt W0 r lb g0 A m c bs) (hL : CxL W0 r lb g0) (hB : B ≤ W0.heap.size) (w : World) (s : LS) (h : LkAt W0 B r lb g0 A m c es e s w) (hes : es.length ≤ 50) (z : Value) :
    Calls Tryz.prog 150 #[.pointer (some ⟨lb, 0, none⟩), z] w fun en w' => Out W0 B r lb g0 A m c es e (listL bs e s) en w' := by
  obtain ⟨res, hres⟩ : ∃ res, listL bs e s = res := ⟨_, rfl⟩
  rw [hres]
  have HRES := Lib.hid hres
  have H := Lib.hid h
  have HX := Lib.hid hx
  have HL := Lib.hid hL
  have HB := Lib.hid hB
  clear h hx hL hB hres
  go_enter Tryz.func150, Tryz.ntmps150
  go_wp2_with fail
  obtain ⟨bx, hbx⟩ : ∃ bx, w.heap.size = bx := ⟨_, rfl⟩
  refine wp_gn fun w1 hw1 => ?_
  have k1 : Keeps [] w w1 := by rw [hw1]; exact Keeps.alloc [] w _
  obtain ⟨g1, hg1, hgs1, kp1, hx1, h1⟩ := H.out.rebase HX.out k1
  have hb1 : w1.cell? ⟨bx, 0, none⟩ = some (.pointer (some ⟨lb, 0, none⟩)) := by rw [hw1, ← hbx]; exact cell_of_block (MapKept.heap_alloc w _).1 0
  have hwl : lb < w.heap.size := Nat.lt_of_lt_of_le HX.out.l0 H.out.kp.size
  have hwr : r < w.heap.size := Nat.lt_of_lt_of_le HX.out.r0 H.out.kp.size
  have hBX := Lib.hid (Box.at (r := r) (lb := lb) (g1 := g1) hb1 (by omega) (by omega) (by omega))
  have HBL := Lib.hid (show bx ≠ lb by omega)
  have HX1 := Lib.hid hx1
  have H1 := Lib.hid h1
  have HL1 := Lib.hid (HL.out.rebase kp1 hg1)
  have HG1 := Lib.hid (And.intro kp1 hg1)
  have HB1 := Lib.hid (Nat.le_trans HB.out kp1.size)
  rw [hbx]
  clear k1 hg1 hgs1 kp1 hx1 h1 hb1 hwl hwr hw1 hbx
  go_loopw [4] (fun _ wr => ∃ si, LkAt w1 B r lb g1 A m c es e si wr ∧ listL bs e si = res) (fun _ wr => e - atOf r wr)
  case atStart => exact ⟨s, H1.out, HRES.out⟩
  case round =>
    obtain ⟨si, hli, hri⟩ := hrel
    have HI := Lib.hid hli
    have c2 := hBX.out wr hli.kp
    have HLT := Lib.hid (lleft_any wr si hli)
    have HM := Lib.hid (atOf_rd hli.rd)
    rw [listL_step] at hri
    clear hli HRES
    by_cases h0 : e ≤ si.at_
    · rw [if_pos h0] at hri
      subst hri
      have h0' : e - si.at_ = 0 := by omega
      rw [h0'] at HLT
      go_wp2_with fail
      refine HLT.out.mono ?_
      rintro en w2 ⟨rfl, k2⟩
      have H2 := Lib.hid (HI.out.keep0 k2)
      clear k2 HLT
      go_wp2_with fail
      go_end0
      exact Out.back HG1.out.1 HG1.out.2 ⟨rfl, H2.out⟩
    · rw [if_neg h0] at hri
      obtain ⟨d, hd⟩ : ∃ d, e - si.at_ = d := ⟨_, rfl⟩
      have hd0 : (0 : Int) < (d : Int) := by omega
      rw [hd] at HLT
      have HD := Lib.hid hd
      clear hd
      go_wp2_with fail
      refine HLT.out.mono ?_
      rintro en w2 ⟨rfl, k2⟩
      have H2 := Lib.hid (HI.out.keep0 k2)
      have c2b := hBX.out w2 H2.out.kp
      have HNU := Lib.hid (number_any HX1.out w2 si H2.out 1 (by omega))
      clear k2 HLT c2
      go_wp2_with fail
      cases hnum : numL bs 1 e si with
      | error k =>
        rw [hnum] at hri HNU
        subst hri
        refine HNU.out.mono ?_
        rintro en w3 ⟨rfl, hk⟩
        have HK := Lib.hid hk
        clear hk HNU hnum
        go_wp2_with fail
        exact ⟨rfl, Out.back HG1.out.1 HG1.out.2 ⟨rfl, HK.out⟩⟩
      | ok p =>
        obtain ⟨sort, s1⟩ := p
        rw [hnum] at hri HNU
        have HAT := Lib.hid (numL_at hnum)
        simp only at hri
        refine HNU.out.mono ?_
        rintro en w3 ⟨rfl, h3⟩
        have H3 := Lib.hid h3
        have c2c := hBX.out w3 h3.kp
        have hca : ∀ o, (w3.alloc o).cell? ⟨bx, 0, none⟩ = some (.pointer (some ⟨lb, 0, none⟩)) := fun o => cell_keeps (Keeps.alloc [] w3 o) c2c (by simp)
        clear h3 HNU c2b hnum
        go_wp2_with fail
        obtain ⟨sb, hsb⟩ : ∃ sb, w3.heap.size = sb := ⟨_, rfl⟩
        refine calls_gn fun w4 hw4 => ?_
        have k4 : Keeps [] w3 w4 := by rw [hw4]; exact Keeps.alloc [] w3 _
        obtain ⟨g2, hg2, hgs2, kp2, hx2, h2⟩ := H3.out.rebase HX1.out k4
        have hb4 : w4.cell? ⟨sb, 0, none⟩ = some (.int .i64 sort) := by rw [hw4, ← hsb]; exact cell_of_block (MapKept.heap_alloc w3 _).1 0
        have hwl : lb < w3.heap.size := Nat.lt_of_lt_of_le HX1.out.l0 H3.out.kp.size
        have hwr : r < w3.heap.size := Nat.lt_of_lt_of_le HX1.out.r0 H3.out.kp.size
        have hBX2 := hBX.out.rebase kp2 hg2
        have hSB2 := Box.at (r := r) (lb := lb) (g1 := g2) hb4 (by omega) (by omega) (by omega)
        have hL2 := HL1.out.rebase kp2 hg2
        have hB2 : B ≤ w4.heap.size := Nat.le_trans HB1.out kp2.size
        rw [hsb]
        have HSO := Lib.hid (some_any hx2 hB2 w4 s1 h2 2 (by omega) hes anyQ (fun n _ t => nameL bs sort n t) 87 160 #[] #[] #[] #[.pointer (some ⟨bx, 0, none⟩), .pointer (some ⟨sb, 0, none⟩)]
          (enters Tryz.func87 (by kernel_rfl) (by kernel_rfl)) (enters Tryz.func160 (by kernel_rfl) (by kernel_rfl))
          (fun v s' w' _ _ => (any_any w' v).mono fun en w'' ⟨he, hw⟩ => ⟨he, by rw [hw]; exact Keeps.refl _ _⟩)
          (fun v s' w' _ hv hl => list1_any hx2 hL2 bx sb sort HBL.out hBX2 hSB2 w' s' hl v (Nat.le_refl _)))
        have HG2 := Lib.hid (And.intro kp2 hg2)
        clear k4 hg2 hgs2 kp2 hx2 h2 hb4 hwl hwr hBX2 hSB2 hL2 hB2 hw4 hca c2c
        cases hso : someL bs 2 e anyQ (fun n _ t => nameL bs sort n t) s1 with
        | error k =>
          rw [hso] at hri HSO
          subst hri
          refine HSO.out.mono ?_
          rintro en w5 ⟨rfl, h5⟩
          have H5 := Lib.hid h5
          clear h5 HSO hso
          go_wp2_with fail
          exact ⟨rfl, Out.back HG1.out.1 HG1.out.2 (Out.back HG2.out.1 HG2.out.2 ⟨rfl, H5.out⟩)⟩
        | ok s2 =>
          rw [hso] at hri HSO
          have h23 := someL_at (fun n e' t t' h => nameL_at h) hso
          refine HSO.out.mono ?_
          rintro en w5 ⟨rfl, h5⟩
          have H5 := Lib.hid (Out.back (x := .ok s2) HG2.out.1 HG2.out.2 ⟨rfl, h5⟩)
          clear h5 HSO hso
          go_wp2_with fail
          refine ⟨⟨s2, H5.out.2, hri⟩, ?_⟩
          rw [atOf_rd H5.out.2.rd, HM.out]
          have := HAT.out.1
          omega
end
end Go.Proofs.YtpoheemjdieogaaGreatDoor
