/-
  The walk of tls.looker's some: how many bytes stand there, and they are gone through. Condition: contracts of the two functions that are handed in.
-/
import Derived.Test.YtpoheemjdieogaaGreatDoorTlsL
import Derived.Maps.AppendAt
import Derived.Deep.RegionLaw
namespace Go.Proofs.YtpoheemjdieogaaGreatDoor
open Go.RowKit Go.Lib
set_option linter.unusedVariables false
set_option linter.unusedSimpArgs false

theorem addr_at0 (g j : Nat) : (⟨g, 0, none⟩ : Addr).add j = ⟨g, j, none⟩ := by unfold Addr.add; split <;> simp_all
theorem Tryz.infoInt : (Tryz.prog.info? 3).map (fun i => (i.zero, i.size, i.bytes)) = some (some (.int .i64 0), 1, 8) := by kernel_rfl
/-- append of one int as one step of a region that draws -/
theorem step_append_I {o : Oper} {a : Act} {w : World} {K : Act → World → Prop} {Q : Exit → Act → World → Prop} (s x : Operand) (t : TypeId)
    (hop : o.op = Op.call { callee := Callee.builtin Builtin.append, args := #[s, x], argTypes := #[t, t] }) (ht : Tryz.prog.underlying t = some (.slice 3))
    (B : Nat) (hB : B ≤ w.heap.size) (v : Value) (n : Nat) (l1 : List Value) (hs : a.eval s = v) (hown : w.ownsRow B 3 1 v n l1) (ad : Addr) (z : Int) (hx : a.eval x = .slice (some ad) 1 1) (hz : w.cell? ad = some (.int .i64 z)) (hn : n ≤ 100000)
    (h : ∀ v' w', w'.ownsRow B 3 1 v' (n + 1) (l1 ++ [.int .i64 z]) → w.grownBy w' v.ownBlock → (v'.ownBlock = v.ownBlock ∨ v'.ownBlock = some w.heap.size) → K (a.put o.dst v') w') : Oper.wp Tryz.prog o a w K Q := by
  obtain ⟨i0, hi0, hz0, hz1, hz2⟩ := info_parts Tryz.infoInt
  obtain ⟨v', w', hrun, h2, h3, h4, h5⟩ := run_append_own_at (P := Tryz.prog) (w := w) B t o.type 3 i0 _ 1 8 ht hi0 hz0 hz1 hz2 rfl (by omega) v n l1 hown ad 1 1 [.int .i64 z] rfl
    (fun j u hj => by
      rcases j with _ | j
      · simp at hj; subst hj
        have : ad.add 0 = ad := by obtain ⟨b, k, e⟩ := ad; unfold Addr.add; cases e <;> simp
        rw [this]; exact hz
      · simp at hj) (fun u hu => by simp at hu; subst hu; rfl) (by simp only [maxLen]; omega) (by omega) hB
  unfold Oper.wp
  simp only [execOp, hop, resolve, invoke, builtin, Sem.run_bind, Sem.run_pure, Result.andThen_ok, List.map_toArray, List.map_cons, List.map_nil, hs, hx, hrun]
  exact h v' w' h2 h3 h5
/-- a row without its top -/
theorem own_pop {w : World} {B g k n : Nat} {l : List Value} {x : Value} (h : w.ownsRow B 3 1 (.slice (some ⟨g, 0, none⟩) (n + 1) k) (n + 1) (l ++ [x])) : w.ownsRow B 3 1 (.slice (some ⟨g, 0, none⟩) n k) n l := by
  have hl : l.length = n := by have := h.1; rw [List.length_append] at this; simp at this; omega
  refine ⟨by omega, ?_⟩
  rcases h.2 with ⟨h0, _⟩ | ⟨g', cap, cur, h1, hb, hg, hnc, hm, hsz, ht⟩
  · cases h0
  · injection h1 with e1 _ e3
    injection e1 with e1
    injection e1 with e1
    subst e1 e3
    refine .inr ⟨_, _, cur, rfl, hb, hg, by omega, hm, hsz, ?_⟩
    have : (cur.toList.take ((n + 1) * 1)).take (n * 1) = (l ++ [x]).take (n * 1) := by rw [ht]
    rw [List.take_take, Nat.min_eq_left (by omega)] at this
    rw [this, List.take_append_of_le_length (by omega), List.take_of_length_le (by omega)]
theorem numL_lt {bs : List UInt8} {size e : Nat} {s s' : LS} {v : Nat} (h : numL bs size e s = .ok (v, s')) (hs : size ≤ 3) : v < 16777216 := by
  unfold numL at h
  split at h
  · cases h
  · split at h
    · cases h
    · rename_i b s'' hg
      injection h with h
      injection h with h1 h2
      subst h1
      have hb := beN_lt b
      have hl : b.length ≤ 3 := by
        unfold getL at hg
        split at hg
        · cases hg
        · injection hg with hg
          injection hg with hg1 _
          rw [← hg1, List.length_take]; omega
      exact Nat.lt_of_lt_of_le hb (Nat.pow_le_pow_right (n := 256) (by omega) hl)
theorem lkb_grown {w W W' : World} {r lb g : Nat} {ev : Value} {s : LS} (h : LkB w r lb ev s) (k : Keeps [] w W) (hg : W.grownBy W' (some g)) (hne : g ≠ lb) : LkB W' r lb ev s :=
  ((Keeps.grown hg).block lb (Nat.lt_of_lt_of_le (lt_of_block h) k.size) (by simp; omega)).trans ((k.block lb (lt_of_block h) (by simp)).trans h)
theorem own_form {w : World} {B n : Nat} {v : Value} {l : List Value} (h : w.ownsRow B 3 1 v (n + 1) l) : ∃ g k, v = .slice (some ⟨g, 0, none⟩) (n + 1) k := by
  rcases h.2 with ⟨_, h0⟩ | ⟨g, cap, cur, rfl, _⟩
  · omega
  · exact ⟨g, cap, rfl⟩
theorem SR.keep {r lb : Nat} {bv : Value} {a : Nat} {w W : World} (h : w.drew.cell? ⟨lb, 0, none⟩ = some (.pointer (some ⟨r, 0, none⟩)) ∧ RdAt w.drew r bv a) (k : Keeps [] w W) : W.cell? ⟨lb, 0, none⟩ = some (.pointer (some ⟨r, 0, none⟩)) ∧ RdAt W r bv a :=
  ⟨cell_keeps (w := w) k h.1 (by simp), RdAt.keep (w := w) h.2 k (by simp)⟩
theorem SR.alloc {r lb : Nat} {bv : Value} {a : Nat} {W : World} (h : W.cell? ⟨lb, 0, none⟩ = some (.pointer (some ⟨r, 0, none⟩)) ∧ RdAt W r bv a) (o : Obj) : (W.alloc o).cell? ⟨lb, 0, none⟩ = some (.pointer (some ⟨r, 0, none⟩)) ∧ RdAt (W.alloc o) r bv a :=
  ⟨cell_keeps (Keeps.alloc [] W o) h.1 (by simp), h.2.keep (Keeps.alloc [] W o) (by simp)⟩
theorem SR.grown {r lb g : Nat} {bv : Value} {a : Nat} {W W' : World} (h : W.cell? ⟨lb, 0, none⟩ = some (.pointer (some ⟨r, 0, none⟩)) ∧ RdAt W r bv a) (k : W.grownBy W' (some g)) (h1 : g ≠ lb) (h2 : g ≠ r) : W'.cell? ⟨lb, 0, none⟩ = some (.pointer (some ⟨r, 0, none⟩)) ∧ RdAt W' r bv a :=
  ⟨cell_keeps (Keeps.grown k) h.1 (by simp; omega), h.2.keep (Keeps.grown k) (by simp; omega)⟩
theorem SR.set {r lb : Nat} {bv : Value} {a : Nat} {W : World} (h : W.cell? ⟨lb, 0, none⟩ = some (.pointer (some ⟨r, 0, none⟩)) ∧ RdAt W r bv a) (u : Value) (h1 : r ≠ lb) : (W.setCell ⟨lb, 1, none⟩ u).cell? ⟨lb, 0, none⟩ = some (.pointer (some ⟨r, 0, none⟩)) ∧ RdAt (W.setCell ⟨lb, 1, none⟩ u) r bv a := by
  refine ⟨?_, h.2.keep (Keeps.setCell W ⟨lb, 1, none⟩ u) (by simp; omega)⟩
  rw [← h.1]
  simp [World.cell?, World.setCell, Array.getElem?_modify]
  cases h0 : W.heap[lb]? with
  | none => rfl
  | some o => cases o <;> simp
section
variable {W0 : World} {B r lb g0 : Nat} {A : Option Addr} {m c : Nat} {bs : List UInt8} {es : List Nat} {e : Nat}
theorem push_lk (hx : Cxt W0 r lb g0 A m c bs) {s : LS} {w4 W w5 : World} {g k g5 k5 N v p : Nat} (h : LkAt W0 B r lb g0 A m c es e s w4) (hlk : LkB w4 r lb (.slice (some ⟨g, 0, none⟩) N k) s) (hg : g = g0 ∨ W0.heap.size ≤ g) (kW : Keeps [] w4 W)
    (hg5 : W.grownBy w5 (some g)) (hb5 : (Value.slice (some ⟨g5, 0, none⟩) (N + 1) k5).ownBlock = (Value.slice (some ⟨g, 0, none⟩) N k).ownBlock ∨ (Value.slice (some ⟨g5, 0, none⟩) (N + 1) k5).ownBlock = some W.heap.size)
    (hown5 : w5.ownsRow B 3 1 (.slice (some ⟨g5, 0, none⟩) (N + 1) k5) (N + 1) ((es ++ [e]).map iV ++ [.int .i64 p])) (hN : es.length + 1 = N) (hp : s.at_ + v = p) (hv : p ≤ e) :
    LkAt W0 B r lb g0 A m c (es ++ [e]) (s.at_ + v) s (w5.setCell ⟨lb, 1, none⟩ (.slice (some ⟨g5, 0, none⟩) (N + 1) k5)) := by
  have h1 := hx.rl
  have h2 := hx.rg
  have h3 := hx.lg
  have h4 := hx.r0
  have h5 := hx.l0
  have h6 := hx.gs
  have hsz := h.kp.size
  have hsz2 := kW.size
  have hgl : g ≠ lb := by omega
  have hgr : g ≠ r := by omega
  have k5' : Keeps [g] w4 w5 := (kW.mono (by simp)).trans (Keeps.grown hg5)
  have hb : g5 = g ∨ g5 = W.heap.size := by simpa [Value.ownBlock] using hb5
  have hlk5 := lkb_grown hlk kW hg5 hgl
  have hg5l : g5 ≠ lb := by omega
  exact {
    kp := by
      refine Keeps.setCell' ?_ (.inr (by simp)) _
      have : Keeps (g :: [r, lb, g0]) W0 w5 := (h.kp.mono (by simp)).trans (k5'.mono (by simp))
      exact this.fresh (fun x hx hlt => by simp at hx ⊢; omega)
    rd := (h.rd.keep k5' (by simp; omega)).keep (Keeps.setCell w5 ⟨lb, 1, none⟩ _) (by simp; omega)
    lk := by
      refine ⟨_, by simpa [LkB] using heap_setCell_self hlk5 1 _, ?_, fun j hj => ?_⟩
      · have := own_keepS hown5 (Keeps.setCell w5 ⟨lb, 1, none⟩ (.slice (some ⟨g5, 0, none⟩) (N + 1) k5)) (fun j hj => by cases hj; simp; omega)
        subst hN hp
        simpa [iV] using this
      · have hj2 : g5 = j := by injection hj
        omega
    top := by omega
    lim := by have := h.lim; omega
    le := h.le }
theorem pop_lk (hx : Cxt W0 r lb g0 A m c bs) {s2 : LS} {w7 : World} {g7 k7 M N e' : Nat} (h : LkAt W0 B r lb g0 A m c (es ++ [e]) e' s2 w7) (hlk : LkB w7 r lb (.slice (some ⟨g7, 0, none⟩) M k7) s2)
    (hown : w7.ownsRow B 3 1 (.slice (some ⟨g7, 0, none⟩) M k7) M ((es ++ [e] ++ [e']).map iV)) (hblk : ∀ j, (Value.slice (some ⟨g7, 0, none⟩) M k7).ownBlock = some j → (j = g0 ∨ W0.heap.size ≤ j)) (hM : M = N + 1) (hN : es.length + 1 = N) (he : e' ≤ e) (hl : e ≤ 1073741824) :
    LkAt W0 B r lb g0 A m c es e s2 (w7.drew.setCell ⟨lb, 1, none⟩ (.slice (some ⟨g7, 0, none⟩) N k7)) := by
  have h1 := hx.rl
  have h3 := hx.lg
  have h5 := hx.l0
  have hb := hblk g7 rfl
  subst hM
  have hp := own_pop (l := (es ++ [e]).map iV) (x := iV e') (by simpa using hown)
  subst hN
  exact {
    kp := Keeps.setCell' h.kp.drew' (.inr (by simp)) _
    rd := RdAt.keep (w := w7) h.rd ((Keeps.refl [lb] w7).drew'.trans (Keeps.setCell w7.drew ⟨lb, 1, none⟩ _)) (by simp; omega)
    lk := by
      refine ⟨_, by simpa [LkB] using heap_setCell_self (w := w7.drew) hlk 1 _, ?_, fun j hj => ?_⟩
      · exact own_keepS (w := w7) hp ((Keeps.refl [lb] w7).drew'.trans (Keeps.setCell w7.drew ⟨lb, 1, none⟩ _)) (fun j hj => by cases hj; simp; omega)
      · have hj2 : g7 = j := by injection hj
        omega
    top := by have := h.top; omega
    lim := hl
    le := h.le }
set_option maxRecDepth 100000 in
set_option maxHeartbeats 8000000 in
theorem some_any (hx : Cxt W0 r lb g0 A m c bs) (hB : B ≤ W0.heap.size) (w : World) (s : LS) (h : LkAt W0 B r lb g0 A m c es e s w) (size : Nat) (hsz : size ≤ 3) (hes : es.length ≤ 50)
    (okf : Nat → Nat → Bool) (within : Nat → Nat → LS → Except Int LS)
    (F1 F2 : Nat) (A1 C1 A2 C2 : Array Value) (hF1 : ∀ args w, (callFunc F1 args).run Tryz.prog w = .ok (.enter F1 args) w) (hF2 : ∀ args w, (callFunc F2 args).run Tryz.prog w = .ok (.enter F2 args) w)
    (hok : ∀ (v : Nat) s1 w1, v < 16777216 → LkAt W0 B r lb g0 A m c es e s1 w1 → Calls Tryz.prog F1 (A1.push (.int .i64 v) ++ C1) w1 fun en w' => en = .returned (.bool (okf v (e - s1.at_))) ∧ Keeps [] w1 w')
    (hwi : ∀ (v : Nat) s1 w1, v < 16777216 → v ≤ e - s1.at_ → LkAt W0 B r lb g0 A m c (es ++ [e]) (s1.at_ + v) s1 w1 → Calls Tryz.prog F2 (A2.push (.int .i64 v) ++ C2) w1 fun en w' => Out W0 B r lb g0 A m c (es ++ [e]) (s1.at_ + v) (within v (s1.at_ + v) s1) en w') :
    Calls Tryz.prog 86 #[.pointer (some ⟨lb, 0, none⟩), .int .i64 size, .func (.func F1) A1 C1, .func (.func F2) A2 C2] w fun en w' => Out W0 B r lb g0 A m c es e (someL bs size e okf within s) en w' := by
  have HNU := Lib.hid (number_any hx w s h size hsz)
  have HX := Lib.hid hx
  have HB := Lib.hid hB
  have HOK := Lib.hid hok
  have HWI := Lib.hid hwi
  obtain ⟨res, hres⟩ : ∃ res, someL bs size e okf within s = res := ⟨_, rfl⟩
  rw [hres]
  unfold someL at hres
  clear hx h hok hwi hB
  cases hnum : numL bs size e s with
  | error k =>
    rw [hnum] at hres HNU
    subst hres
    go_enter Tryz.func86, Tryz.ntmps86
    go_wp2_with fail
    refine HNU.out.mono ?_
    rintro en w2 ⟨rfl, hk⟩
    have HK := Lib.hid hk
    clear hk HNU hnum
    go_wp2_with fail
    exact ⟨rfl, rfl, HK.out⟩
  | ok p =>
    obtain ⟨v, s1⟩ := p
    rw [hnum] at hres HNU
    have hv := numL_lt hnum hsz
    simp only at hres
    go_enter Tryz.func86, Tryz.ntmps86
    go_wp2_with fail
    refine HNU.out.mono ?_
    rintro en w2 ⟨rfl, hl2⟩
    have H2 := Lib.hid hl2
    clear hl2 HNU hnum
    go_wp2_with fail
    have HOKC := Lib.hid (HOK.out v s1 w2 hv H2.out)
    by_cases ho : okf v (e - s1.at_) = true
    case neg =>
      have hof : okf v (e - s1.at_) = false := by cases hz : okf v (e - s1.at_) <;> simp_all
      rw [if_neg (by simp [hof])] at hres
      rw [hof] at HOKC
      subst hres
      refine HOKC.out.mono ?_
      rintro en w3 ⟨rfl, k3⟩
      have H3 := Lib.hid (H2.out.keep0 k3)
      have HW := Lib.hid (wrong_yes w3 s1 H3.out)
      clear k3 HOKC ho hof
      go_wp2_with fail
      refine HW.out.mono ?_
      rintro en w4 ⟨rfl, k4⟩
      have H4 := Lib.hid (H3.out.keep0 k4)
      clear k4 HW
      go_wp2_with fail
      exact ⟨rfl, rfl, H4.out.kp, _, H4.out.rd⟩
    case pos =>
      rw [ho] at HOKC
      refine HOKC.out.mono ?_
      rintro en w3 ⟨rfl, k3⟩
      have H3 := Lib.hid (H2.out.keep0 k3)
      have HLT := Lib.hid (lleft_any w3 s1 H3.out)
      clear k3 HOKC
      by_cases hle : v ≤ e - s1.at_
      case neg =>
        rw [if_neg (by simp [hle])] at hres
        subst hres
        have hgt : ((e - s1.at_ : Nat) : Int) < (v : Int) := by omega
        go_wp2_with fail
        refine HLT.out.mono ?_
        rintro en w4 ⟨rfl, k4⟩
        have H4 := Lib.hid (H3.out.keep0 k4)
        have HW := Lib.hid (wrong_yes w4 s1 H4.out)
        clear k4 HLT
        go_wp2_with fail
        refine HW.out.mono ?_
        rintro en w5 ⟨rfl, k5⟩
        have H5 := Lib.hid (H4.out.keep0 k5)
        clear k5 HW
        go_wp2_with fail
        exact ⟨rfl, rfl, H5.out.kp, _, H5.out.rd⟩
      case pos =>
        rw [if_pos ⟨ho, hle⟩] at hres
        have hgt : decide (e - s1.at_ < v) = false := by simp; omega
        go_wp2_with fail
        refine HLT.out.mono ?_
        rintro en w4 ⟨rfl, k4⟩
        have H4 := Lib.hid (H3.out.keep0 k4)
        have HW := Lib.hid (wrong_no w4 (some ⟨lb, 0, none⟩))
        clear k4 HLT
        go_wp2_with fail
        refine HW.out.mono ?_
        rintro en w5 ⟨rfl, h5⟩
        obtain rfl := h5.symm
        clear h5 HW
        go_wp2_with fail
        obtain ⟨ev, hlk, hown, hblk⟩ := H4.out.lk
        obtain ⟨g, k, rfl, ht, hk, _⟩ := top_cell hown
        have hgl : g ≠ lb := by have := hblk g rfl; have h1 := HX.out.lg; have h2 := HX.out.l0; omega
        have hgr : g ≠ r := by have := hblk g rfl; have h1 := HX.out.rg; have h2 := HX.out.r0; omega
        have hrl := HX.out.rl
        have HBLK := Lib.hid hblk
        have HOWN := Lib.hid hown
        have HLK := Lib.hid hlk
        have hN : es.length + 1 ≤ 100000 := by omega
        obtain ⟨N, hNN⟩ : ∃ N, es.length + 1 = N := ⟨_, rfl⟩
        rw [hNN] at hN HOWN HLK
        have HNN := Lib.hid hNN
        obtain ⟨a, ha⟩ : ∃ a, s1.at_ = a := ⟨_, rfl⟩
        have HS0 := Lib.hid (show w4.drew.cell? ⟨lb, 0, none⟩ = some (.pointer (some ⟨r, 0, none⟩)) ∧ RdAt w4.drew r (.slice A m c) a from ⟨cell_of_block hlk 0, by have := H4.out.rd; rw [ha] at this; exact this⟩)
        have hc1 : w4.drew.cell? ⟨lb, 1, none⟩ = some (.slice (some ⟨g, 0, none⟩) N k) := by rw [← hNN]; exact cell_of_block hlk 1
        have hc0 := HS0.out.1
        have hc1a : ∀ o, (w4.alloc o).drew.cell? ⟨lb, 1, none⟩ = some (.slice (some ⟨g, 0, none⟩) N k) := fun o => cell_keeps (w := w4) (Keeps.alloc [] _ o).drew' hc1 (by simp)
        obtain ⟨p, hp⟩ : ∃ p, a + v = p := ⟨_, rfl⟩
        have htop := H4.out.top
        have hlim := H4.out.lim
        have hmle := H4.out.le
        have hml := HX.out.len
        have hsum : IntKind.i64.wrap ((a : Int) + (v : Int)) = (p : Int) := by rw [wrap_in (by omega) (by omega)]; omega
        have hBw : B ≤ w4.heap.size := Nat.le_trans HB.out H4.out.kp.size
        have hff : w4.drew.frozen? ⟨lb, 1, none⟩ = false := free_of_block hlk 1
        clear hlk hown hblk ht hNN hk htop hlim hmle hml
        go_region_law (first | (refine step_append_I (.tmp 28) (.tmp 36) 46 rfl Tryz.underlying46 B (Nat.le_trans hBw (Keeps.alloc [] w4 _).size) _ N _ (by rfl) (own_keep0 HOWN.out (Keeps.alloc [] w4 _).drew') _ p (by rfl) (cell_of_block (MapKept.heap_alloc w4 _).1 0) hN ?_; intro v5 w5 hown5 hg5 hb5; obtain ⟨g5, k5, rfl⟩ := own_form hown5; have hlk5 := Lib.hid (lkb_grown HLK.out (Keeps.alloc [] w4 _).drew' hg5 hgl); have hc5 : w5.cell? ⟨lb, 1, none⟩ = some (.slice (some ⟨g, 0, none⟩) N k) := cell_of_block hlk5.out 1; have hf5 : w5.frozen? ⟨lb, 1, none⟩ = false := free_of_block hlk5.out 1) | (go_simp; go_at_call 121; refine (at_any _ r (.slice A m c) a HS0.out.2).mono ?_; rintro e w2 ⟨rfl, rfl⟩))
        all_goals
          have H6 := Lib.hid (push_lk HX.out (v := v) H4.out HLK.out (HBLK.out g rfl) (Keeps.alloc [] w4 _).drew' hg5 hb5 hown5 HNN.out (by rw [ha]; exact hp) (by have := H4.out.top; omega))
          clear hg5 hb5 hown5 hlk5 hc5 hf5
          generalize w5.setCell ⟨lb, 1, none⟩ (Value.slice (some ⟨g5, 0, none⟩) (N + 1) k5) = w6 at H6 ⊢
          have HC := Lib.hid (HWI.out v s1 w6 hv hle H6.out)
          go_wp2_with fail
          cases hwr : within v (a + v) s1 with
          | error kk =>
            rw [ha, hwr] at hres HC
            subst hres
            refine HC.out.mono ?_
            rintro en w7 ⟨rfl, h7⟩
            have H7 := Lib.hid h7
            clear h7 HC
            go_wp2_with fail
            exact ⟨rfl, rfl, H7.out⟩
          | ok s2 =>
            rw [ha, hwr] at hres HC
            subst hres
            refine HC.out.mono ?_
            rintro en w7 ⟨rfl, h7⟩
            have H7 := Lib.hid h7
            clear h7 HC HWI HOK H6 hwr HBLK HOWN HLK HS0 hc0 hc1 hc1a hsum hff hgl hgr
            obtain ⟨ev7, hlk7, hown7, hblk7⟩ := H7.out.lk
            obtain ⟨g7, k7, rfl, _, hk7, _⟩ := top_cell hown7
            have HBLK := Lib.hid hblk7
            have HOWN := Lib.hid hown7
            have HLK := Lib.hid hlk7
            have hkk : (N : Int) ≤ (k7 : Int) := by have := hk7.1; have := HNN.out; simp at *; omega
            have hkm : (N : Int) ≤ 9223372036854775807 := by have := hk7.2; simp only [maxLen] at this; omega
            obtain ⟨M, hM⟩ : ∃ M, (es ++ [e]).length + 1 = M := ⟨_, rfl⟩
            have hMN : M = N + 1 := by rw [← hM, ← HNN.out, List.length_append]; rfl
            rw [hM] at HOWN HLK
            have hc1 : w7.drew.cell? ⟨lb, 1, none⟩ = some (.slice (some ⟨g7, 0, none⟩) M k7) := cell_of_block HLK.out 1
            have hff : w7.drew.frozen? ⟨lb, 1, none⟩ = false := free_of_block HLK.out 1
            have hsub : IntKind.i64.wrap ((M : Int) - 1) = (N : Int) := by rw [wrap_in (by omega) (by omega)]; omega
            have hsub2 : wrap64 ((M : Int) - 1) = (N : Int) := by unfold wrap64; omega
            have hn0 : (0 : Int) ≤ (N : Int) := by omega
            have HM := Lib.hid hMN
            clear hlk7 hown7 hblk7 hM hMN hk7
            go_wp2_with fail
            go_region_law (fail)
            all_goals
              go_wp2_with fail
              go_end0
              exact ⟨rfl, pop_lk HX.out H7.out HLK.out HOWN.out HBLK.out HM.out HNN.out (by have := H4.out.top; omega) H4.out.lim⟩
end
end Go.Proofs.YtpoheemjdieogaaGreatDoor
