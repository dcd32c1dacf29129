/-
  The walks of the functions that tls.looker's methods hand to some: any, body's tests, a name. Condition: the looker lies in memory as LkAt says.
-/
import Derived.Test.YtpoheemjdieogaaGreatDoorFoldQ
import Derived.Test.YtpoheemjdieogaaGreatDoorTlsS
import Derived.Test.YtpoheemjdieogaaGreatDoorFoldW
namespace Go.Proofs.YtpoheemjdieogaaGreatDoor
open Go.RowKit Go.Lib
set_option linter.unusedVariables false
set_option linter.unusedSimpArgs false

theorem enters {P : Program} {f : FuncId} {fn : Func} (hf : P.funcs[f]? = some fn) (hn : (fn.name == "runtime.NumGoroutine") = false) (hb : fn.body.isNone = false) (args : Array Value) (w : World) : (callFunc f args).run P w = .ok (.enter f args) w := by
  unfold callFunc
  have hb2 : ∃ c, fn.body = some c := by cases h : fn.body with
    | none => rw [h] at hb; cases hb
    | some c => exact ⟨c, rfl⟩
  obtain ⟨c, hc⟩ := hb2
  simp only [Sem.run_bind, run_program, Result.andThen_ok, hf, hn, Bool.false_eq_true, if_false, hc, Option.isNone_some, Sem.run_pure]
/-- string(b). -/
theorem BytesV.str0 {P : Program} {w : World} {A : Option Addr} {n c : Nat} {l : List UInt8} (h : BytesV w (.slice A n c) l) (src dst e : TypeId) (hs : P.underlying src = some (.slice e)) (he : P.underlying e = some (.int .u8)) (hd : P.underlying dst = some .string) :
    (convert src dst (.slice A n c)).run P w = .ok (.string ⟨l.toArray⟩) w := by
  rcases Nat.eq_zero_or_pos n with h0 | h0
  · have hl : l = [] := List.eq_nil_of_length_eq_zero (by have := h.form.1; omega)
    subst hl
    subst h0
    cases A with
    | none =>
      rw [run_convert_bytes_string w src dst e none 0 c hs he hd]
      simp [Conv.bytesToString]
      rfl
    | some a => exact run_convert_bytes_back w src dst e a c [] hs he hd (fun j hj => by simp at hj)
  · obtain ⟨g, o, rfl, hc⟩ := h.get h0
    have hn := h.form.1
    subst hn
    refine run_convert_bytes_back w src dst e ⟨g, o, none⟩ c l hs he hd (fun j hj => ?_)
    have e0 : (⟨g, o, none⟩ : Addr).add j = ⟨g, o + j, none⟩ := by unfold Addr.add; split <;> simp_all
    rw [e0]
    exact hc j l[j] (List.getElem?_eq_getElem hj)
/-- the library's variables lie wherever the looker alone was written -/
def CxL (W0 : World) (r lb g0 : Nat) : Prop := ∀ w, Keeps [r, lb, g0] W0 w → LW w
section
variable {W0 : World} {B r lb g0 : Nat} {A : Option Addr} {m c : Nat} {bs : List UInt8} {es : List Nat} {e : Nat}
theorem keeps_back {w1 w : World} {g1 : Nat} (k : Keeps [r, lb, g0] W0 w1) (hg : g1 = g0 ∨ W0.heap.size ≤ g1) (k1 : Keeps [r, lb, g1] w1 w) : Keeps [r, lb, g0] W0 w := by
  have : Keeps (g1 :: [r, lb, g0]) W0 w := (k.mono (by simp)).trans (k1.mono (fun x hx => by simp at hx ⊢; omega))
  exact this.fresh (fun x hx hlt => by simp at hx ⊢; omega)
/-- the state anew from a later world -/
theorem LkAt.rebase (hx : Cxt W0 r lb g0 A m c bs) {w w1 : World} {s : LS} (h : LkAt W0 B r lb g0 A m c es e s w) (k : Keeps [] w w1) :
    ∃ g1, (g1 = g0 ∨ W0.heap.size ≤ g1) ∧ g1 < w.heap.size ∧ Keeps [r, lb, g0] W0 w1 ∧ Cxt w1 r lb g1 A m c bs ∧ LkAt w1 B r lb g1 A m c es e s w1 := by
  have h1 := h.keep0 k
  obtain ⟨ev, hlk, hown, hblk⟩ := h.lk
  obtain ⟨g, kk, rfl, hc, _, _⟩ := top_cell hown
  have hg := hblk g rfl
  have hgs : g < w.heap.size := World.block_lt_of_cell? w _ hc
  have e1 := hx.rl
  have e2 := hx.rg
  have e3 := hx.lg
  have e4 := hx.r0
  have e5 := hx.l0
  have e6 := hx.gs
  have hsz := h1.kp.size
  refine ⟨g, hg, hgs, h1.kp, ?_, ?_⟩
  · exact { by_ := fun w' k' => hx.by_ w' (keeps_back h1.kp hg k'), len := hx.len, bl := hx.bl, rl := hx.rl, rg := by omega, lg := by omega, r0 := by omega, l0 := by omega, gs := Nat.lt_of_lt_of_le hgs k.size }
  · exact { kp := Keeps.refl _ _, rd := h1.rd, lk := ⟨_, (k.block lb (lt_of_block hlk) (by simp)).trans hlk, own_keep0 hown k, fun j hj => .inl (by injection hj with hj; exact hj.symm)⟩, top := h.top, lim := h.lim, le := h.le }
theorem Out.back {w1 w' : World} {g1 : Nat} {x : Except Int LS} {en : Ending} (k : Keeps [r, lb, g0] W0 w1) (hg : g1 = g0 ∨ W0.heap.size ≤ g1) (h : Out w1 B r lb g1 A m c es e x en w') : Out W0 B r lb g0 A m c es e x en w' := by
  cases x with
  | error c => exact ⟨h.1, keeps_back k hg h.2.1, h.2.2⟩
  | ok s =>
    refine ⟨h.1, ?_⟩
    obtain ⟨ev, hlk, hown, hblk⟩ := h.2.lk
    refine { kp := keeps_back k hg h.2.kp, rd := h.2.rd, lk := ⟨ev, hlk, hown, fun j hj => ?_⟩, top := h.2.top, lim := h.2.lim, le := h.2.le }
    have := hblk j hj
    have := k.size
    omega
theorem CxL.rebase {w1 : World} {g1 : Nat} (hL : CxL W0 r lb g0) (k : Keeps [r, lb, g0] W0 w1) (hg : g1 = g0 ∨ W0.heap.size ≤ g1) : CxL w1 r lb g1 := fun w k1 => hL w (keeps_back k hg k1)
end
set_option maxRecDepth 100000 in
theorem any_any (w : World) (v : Nat) : Calls Tryz.prog 87 #[.int .i64 v] w fun e w' => e = .returned (.bool true) ∧ w' = w := by
  go_enter Tryz.func87, Tryz.ntmps87
  go_wp2_with fail
  go_ret
  exact ⟨rfl, rfl⟩
set_option maxRecDepth 100000 in
theorem b1_any (w : World) (v : Nat) : Calls Tryz.prog 123 #[.int .i64 v] w fun e w' => e = .returned (.bool (decide (v ≤ 32))) ∧ w' = w := by
  by_cases h : v ≤ 32
  · have h' : (v : Int) ≤ 32 := by omega
    rw [decide_eq_true h]
    go_enter Tryz.func123, Tryz.ntmps123
    go_wp2_with fail
    go_ret
    exact ⟨rfl, rfl⟩
  · have h' : ¬ (v : Int) ≤ 32 := by omega
    rw [decide_eq_false h]
    go_enter Tryz.func123, Tryz.ntmps123
    go_wp2_with fail
    go_ret
    exact ⟨rfl, rfl⟩
set_option maxRecDepth 100000 in
theorem b3_any (w : World) (v : Nat) : Calls Tryz.prog 125 #[.int .i64 v] w fun e w' => e = .returned (.bool (decide (1 ≤ v))) ∧ w' = w := by
  by_cases h : 1 ≤ v
  · have h' : 1 ≤ (v : Int) := by omega
    rw [decide_eq_true h]
    go_enter Tryz.func125, Tryz.ntmps125
    go_wp2_with fail
    go_ret
    exact ⟨rfl, rfl⟩
  · have h' : ¬ 1 ≤ (v : Int) := by omega
    rw [decide_eq_false h]
    go_enter Tryz.func125, Tryz.ntmps125
    go_wp2_with fail
    go_ret
    exact ⟨rfl, rfl⟩
set_option maxRecDepth 100000 in
theorem b2_any (w : World) (v : Nat) : Calls Tryz.prog 124 #[.int .i64 v] w fun e w' => e = .returned (.bool (decide (2 ≤ v ∧ v % 2 = 0))) ∧ w' = w := by
  by_cases h : 2 ≤ v
  · have h' : 2 ≤ (v : Int) := by omega
    have hb : ((v : Int) % 2 == 0) = decide (v % 2 = 0) := by
      by_cases h2 : v % 2 = 0
      · have : (v : Int) % 2 = 0 := by omega
        simp [this, h2]
      · have : ¬ (v : Int) % 2 = 0 := by omega
        simp [this, h2]
    have e : decide (2 ≤ v ∧ v % 2 = 0) = decide (v % 2 = 0) := by simp [h]
    rw [e]
    go_enter Tryz.func124, Tryz.ntmps124
    go_wp2_with fail
    go_ret
    exact ⟨rfl, rfl⟩
  · have h' : ¬ 2 ≤ (v : Int) := by omega
    rw [decide_eq_false (fun hh => h hh.1)]
    go_enter Tryz.func124, Tryz.ntmps124
    go_wp2_with fail
    go_ret
    exact ⟨rfl, rfl⟩
/-- a box that stays -/
def Box (W0 : World) (r lb g0 : Nat) (b : Nat) (v : Value) : Prop := ∀ w, Keeps [r, lb, g0] W0 w → w.cell? ⟨b, 0, none⟩ = some v
theorem foldB_none {l : List UInt8} (h : foldA l = none) : foldIs ⟨l.toArray⟩ = false := by
  unfold foldIs
  rw [foldL_eq]
  show (foldA l).isSome = false
  rw [h]
  rfl
section
variable {W0 : World} {B r lb g0 : Nat} {A : Option Addr} {m c : Nat} {bs : List UInt8} {es : List Nat} {e : Nat}
set_option maxRecDepth 100000 in
set_option maxHeartbeats 4000000 in
theorem list1_any (hx : Cxt W0 r lb g0 A m c bs) (hL : CxL W0 r lb g0) (bx sb sort : Nat) (hbl : bx ≠ lb) (hbx : Box W0 r lb g0 bx (.pointer (some ⟨lb, 0, none⟩))) (hsb : Box W0 r lb g0 sb (.int .i64 sort)) (w : World) (s : LS) (h : LkAt W0 B r lb g0 A m c es e s w) (n : Nat) (hn : s.at_ + n ≤ e) :
    Calls Tryz.prog 160 #[.int .i64 n, .pointer (some ⟨bx, 0, none⟩), .pointer (some ⟨sb, 0, none⟩)] w fun en w' => Out W0 B r lb g0 A m c es e (nameL bs sort n s) en w' := by
  obtain ⟨res, hres⟩ : ∃ res, nameL bs sort n s = res := ⟨_, rfl⟩
  rw [hres]
  unfold nameL at hres
  have HBY := Lib.hid (bytes_at hx w s h n hn)
  have H := Lib.hid h
  have HX := Lib.hid hx
  have HL := Lib.hid hL
  have HBX := Lib.hid hbx
  have HSB := Lib.hid hsb
  have cb := hbx w h.kp
  obtain ⟨ev, hlk, _⟩ := h.lk
  have c0 : w.cell? ⟨lb, 0, none⟩ = some (.pointer (some ⟨r, 0, none⟩)) := cell_of_block hlk 0
  clear h hx hL hbx hsb hlk
  cases hg : getL bs n s with
  | error k =>
    rw [hg] at hres HBY
    subst hres
    go_enter Tryz.func160, Tryz.ntmps160
    go_wp2_with fail
    refine HBY.out.mono ?_
    rintro en w4 ⟨rfl, k4⟩
    have K4 := Lib.hid k4
    clear k4 HBY hg c0 cb
    go_wp2_with fail
    exact ⟨rfl, rfl, H.out.kp.trans (K4.out.mono (by simp)), _, H.out.rd.keep K4.out (by simp)⟩
  | ok p =>
    obtain ⟨b, s1⟩ := p
    rw [hg] at hres HBY
    simp only at hres
    by_cases hs : sort ≠ 0
    · rw [if_pos (.inl hs)] at hres
      subst hres
      have hs' : ¬ (sort : Int) = 0 := by omega
      have hs2 : ((sort : Int) != 0) = true := by simp; omega
      go_enter Tryz.func160, Tryz.ntmps160
      go_wp2_with fail
      refine HBY.out.mono ?_
      rintro en w4 ⟨A', c', rfl, hb4, h4⟩
      have H4 := Lib.hid h4
      have cs := HSB.out w4 h4.kp
      clear h4 HBY hg c0 cb hb4
      go_wp2_with fail
      go_end0
      exact ⟨rfl, H4.out⟩
    · have hs0 : sort = 0 := by omega
      subst hs0
      by_cases hnm : s1.named = true
      · rw [if_pos (.inr hnm)] at hres
        subst hres
        go_enter Tryz.func160, Tryz.ntmps160
        go_wp2_with fail
        refine HBY.out.mono ?_
        rintro en w4 ⟨A', c', rfl, hb4, h4⟩
        have H4 := Lib.hid h4
        have cs := HSB.out w4 h4.kp
        have cb4 := HBX.out w4 h4.kp
        obtain ⟨ev4, hlk4, _⟩ := h4.lk
        have c3 : w4.cell? ⟨lb, 3, none⟩ = some (.bool true) := by rw [← hnm]; exact cell_of_block hlk4 3
        clear h4 HBY hg c0 cb hb4 hlk4
        go_wp2_with fail
        go_end0
        exact ⟨rfl, H4.out⟩
      · rw [if_neg (by simp [hnm])] at hres
        have hnf : s1.named = false := by cases hz : s1.named <;> simp_all
        obtain ⟨L, hLL⟩ : ∃ L : ByteArray, (⟨b.toArray⟩ : ByteArray) = L := ⟨_, rfl⟩
        cases hf : foldA b with
        | none =>
          rw [hf] at hres
          subst hres
          have hfi := foldB_none hf
          rw [hLL] at hfi
          go_enter Tryz.func160, Tryz.ntmps160
          go_wp2_with fail
          refine HBY.out.mono ?_
          rintro en w4 ⟨A', c', rfl, hb4, h4⟩
          have H4 := Lib.hid h4
          have cs := HSB.out w4 h4.kp
          have cb4 := HBX.out w4 h4.kp
          obtain ⟨ev4, hlk4, _⟩ := h4.lk
          have c3 : w4.cell? ⟨lb, 3, none⟩ = some (.bool false) := by rw [← hnf]; exact cell_of_block hlk4 3
          have hcv := hb4.str0 (P := Tryz.prog) 22 9 5 Tryz.underlying22 Tryz.underlying5 Tryz.underlying9
          rw [hLL] at hcv
          have HFO := Lib.hid (fold_any w4 (HL.out w4 h4.kp) L)
          clear h4 HBY hg c0 cb hb4 hlk4
          go_wp2_with fail
          refine HFO.out.mono ?_
          rintro en w5 ⟨rfl, k5⟩
          have H5 := Lib.hid (H4.out.keep0 k5)
          have cb5 := HBX.out w5 H5.out.kp
          have HW := Lib.hid (wrong_yes w5 s1 H5.out)
          rw [hfi]
          clear k5 HFO hcv cs cb4 c3
          go_wp2_with fail
          refine HW.out.mono ?_
          rintro en w6 ⟨rfl, k6⟩
          have H6 := Lib.hid (H5.out.keep0 k6)
          clear k6 HW
          go_wp2_with fail
          exact ⟨rfl, rfl, H6.out.kp, _, H6.out.rd⟩
        | some low =>
          rw [hf] at hres
          subst hres
          obtain ⟨hfb, hfi⟩ := foldB_some hf
          rw [hLL] at hfi hfb
          obtain ⟨LO, hLO⟩ : ∃ LO : ByteArray, (⟨low.toArray⟩ : ByteArray) = LO := ⟨_, rfl⟩
          rw [hLO] at hfb
          simp only [hLO]
          go_enter Tryz.func160, Tryz.ntmps160
          go_wp2_with fail
          refine HBY.out.mono ?_
          rintro en w4 ⟨A', c', rfl, hb4, h4⟩
          have H4 := Lib.hid h4
          have cs := HSB.out w4 h4.kp
          have cb4 := HBX.out w4 h4.kp
          obtain ⟨ev4, hlk4, _⟩ := h4.lk
          have c3 : w4.cell? ⟨lb, 3, none⟩ = some (.bool false) := by rw [← hnf]; exact cell_of_block hlk4 3
          have hcv := hb4.str0 (P := Tryz.prog) 22 9 5 Tryz.underlying22 Tryz.underlying5 Tryz.underlying9
          rw [hLL] at hcv
          have HFO := Lib.hid (fold_any w4 (HL.out w4 h4.kp) L)
          clear h4 HBY hg c0 cb hb4 hlk4
          go_wp2_with fail
          refine HFO.out.mono ?_
          rintro en w5 ⟨rfl, k5⟩
          have H5 := Lib.hid (H4.out.keep0 k5)
          have cb5 := HBX.out w5 H5.out.kp
          have HW := Lib.hid (wrong_no w5 (some ⟨lb, 0, none⟩))
          rw [hfi, hfb]
          clear k5 HFO hcv cs cb4 c3
          go_wp2_with fail
          refine HW.out.mono ?_
          rintro en w6 ⟨rfl, h6⟩
          obtain rfl := h6.symm
          clear h6 HW
          go_wp2_with fail
          obtain ⟨ev5, hlk5, hown5, hblk5⟩ := H5.out.lk
          have c2 : w5.drew.cell? ⟨lb, 2, none⟩ = some (.string s1.name) := cell_of_block hlk5 2
          have c3 : w5.drew.cell? ⟨lb, 3, none⟩ = some (.bool s1.named) := cell_of_block hlk5 3
          have z2 : w5.drew.frozen? ⟨lb, 2, none⟩ = false := free_of_block hlk5 2
          have z3 : w5.drew.frozen? ⟨lb, 3, none⟩ = false := free_of_block hlk5 3
          have d3 : w5.cell? ⟨lb, 3, none⟩ = some (.bool s1.named) := c3
          have y3 : w5.frozen? ⟨lb, 3, none⟩ = false := z3
          have cbd : w5.drew.cell? ⟨bx, 0, none⟩ = some (.pointer (some ⟨lb, 0, none⟩)) := cb5
          have hlg : lb ≠ g0 := HX.out.lg
          have HB5 := Lib.hid (And.intro hlk5 (And.intro hown5 hblk5))
          have c23 : ∀ u, (w5.drew.setCell ⟨lb, 2, none⟩ u).cell? ⟨lb, 3, none⟩ = some (.bool s1.named) := fun u => by simpa using cell_of_block (heap_setCell_self (w := w5.drew) hlk5 2 u) 3
          have z23 : ∀ u, (w5.drew.setCell ⟨lb, 2, none⟩ u).frozen? ⟨lb, 3, none⟩ = false := fun u => free_of_block (heap_setCell_self (w := w5.drew) hlk5 2 u) 3
          clear hlk5 hown5 hblk5
          have hkk : ∀ u, (w5.drew.setCell ⟨lb, 2, none⟩ u).cell? ⟨bx, 0, none⟩ = some (.pointer (some ⟨lb, 0, none⟩)) := fun u => cell_keeps (Keeps.setCell w5.drew ⟨lb, 2, none⟩ u) cbd (by simpa using hbl)
          have hk2 : ∀ u v, ((w5.drew.setCell ⟨lb, 2, none⟩ u).setCell ⟨lb, 3, none⟩ v).cell? ⟨bx, 0, none⟩ = some (.pointer (some ⟨lb, 0, none⟩)) := fun u v => cell_keeps (Keeps.setCell _ ⟨lb, 3, none⟩ v) (hkk u) (by simpa using hbl)
          go_region_held3 (fun W => W.cell? ⟨bx, 0, none⟩ = some (.pointer (some ⟨lb, 0, none⟩))) (first | exact cbd | exact hkk _ | exact hk2 _ _) (fail)
          go_wp2_with fail
          go_end0
          have h1 := HX.out.rl
          have h5 := HX.out.l0
          refine ⟨rfl, ?_⟩
          have hb2 := heap_setCell_self (w := w5) HB5.out.1 2 (.string LO)
          have hb3 := heap_setCell_self hb2 3 (.bool true)
          have hb4 : ((w5.setCell ⟨lb, 2, none⟩ (.string LO)).setCell ⟨lb, 3, none⟩ (.bool true)).heap[lb]? = some (.cells #[.pointer (some ⟨r, 0, none⟩), ev5, .string LO, .bool true, .bool s1.seen] 118 (0, 0)) := by simpa using hb3
          have kk : Keeps [lb] w5 ((w5.setCell ⟨lb, 2, none⟩ (.string LO)).setCell ⟨lb, 3, none⟩ (.bool true)).drew := ((Keeps.setCell w5 ⟨lb, 2, none⟩ _).trans (Keeps.setCell _ ⟨lb, 3, none⟩ _)).drew'
          exact {
            kp := H5.out.kp.trans (kk.mono (by simp))
            rd := H5.out.rd.keep kk (by simpa using h1)
            lk := ⟨ev5, hb4, own_keepS HB5.out.2.1 kk (fun j hj => by have := HB5.out.2.2 j hj; simp; omega), HB5.out.2.2⟩
            top := H5.out.top
            lim := H5.out.lim
            le := H5.out.le }
end
end Go.Proofs.YtpoheemjdieogaaGreatDoor
