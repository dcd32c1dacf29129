/-
  The walks of tls.looker's small methods: wrong, left, number, skip. Condition: the looker lies in memory as LkAt says.
-/
import Derived.Test.YtpoheemjdieogaaGreatDoorFoldQ
import Derived.Test.YtpoheemjdieogaaGreatDoorTlsR
import Derived.Test.YtpoheemjdieogaaGreatDoorTlsP
namespace Go.Proofs.YtpoheemjdieogaaGreatDoor
open Go.RowKit Go.Lib
set_option linter.unusedVariables false
set_option linter.unusedSimpArgs false

def iV (z : Nat) : Value := .int .i64 (z : Int)
/-- what does not turn while bytes are looked at -/
structure Cxt (W0 : World) (r lb g0 : Nat) (A : Option Addr) (m c : Nat) (bs : List UInt8) : Prop where
  by_ : ∀ w, Keeps [r, lb, g0] W0 w → BytesV w (.slice A m c) bs
  len : m ≤ 100000
  bl : bs.length = m
  rl : r ≠ lb
  rg : r ≠ g0
  lg : lb ≠ g0
  r0 : r < W0.heap.size
  l0 : lb < W0.heap.size
  gs : g0 < W0.heap.size
/-- the looker's cells -/
def LkB (w : World) (r lb : Nat) (ev : Value) (s : LS) : Prop := w.heap[lb]? = some (.cells #[.pointer (some ⟨r, 0, none⟩), ev, .string s.name, .bool s.named, .bool s.seen] 118 (0, 0))
/-- a looker in memory: what stands around (es, then e) -/
structure LkAt (W0 : World) (B r lb g0 : Nat) (A : Option Addr) (m c : Nat) (es : List Nat) (e : Nat) (s : LS) (w : World) : Prop where
  kp : Keeps [r, lb, g0] W0 w
  rd : RdAt w r (.slice A m c) s.at_
  lk : ∃ ev, LkB w r lb ev s ∧ w.ownsRow B 3 1 ev (es.length + 1) ((es ++ [e]).map iV) ∧ ∀ j, ev.ownBlock = some j → (j = g0 ∨ W0.heap.size ≤ j)
  top : s.at_ ≤ e
  lim : e ≤ 1073741824
  le : s.at_ ≤ m
theorem LkAt.keep0 {W0 : World} {B r lb g0 : Nat} {A : Option Addr} {m c : Nat} {es : List Nat} {e : Nat} {s : LS} {w w' : World} (h : LkAt W0 B r lb g0 A m c es e s w) (k : Keeps [] w w') : LkAt W0 B r lb g0 A m c es e s w' where
  kp := h.kp.trans (k.mono (by simp))
  rd := h.rd.keep k (by simp)
  lk := by
    obtain ⟨ev, h1, h2, h3⟩ := h.lk
    exact ⟨ev, (k.block lb (lt_of_block h1) (by simp)).trans h1, own_keep0 h2 k, h3⟩
  top := h.top
  lim := h.lim
  le := h.le
/-- how a call ends: with a state, or giving up -/
def Out (W0 : World) (B r lb g0 : Nat) (A : Option Addr) (m c : Nat) (es : List Nat) (e : Nat) (x : Except Int LS) (en : Ending) (w' : World) : Prop :=
  match x with
  | .ok s' => en = .returned (.tuple #[]) ∧ LkAt W0 B r lb g0 A m c es e s' w'
  | .error k => en = .panicked (gu r k) ∧ Keeps [r, lb, g0] W0 w' ∧ ∃ a, RdAt w' r (.slice A m c) a
/-- the top of the row -/
theorem top_cell {w : World} {B : Nat} {ev : Value} {es : List Nat} {e : Nat} (h : w.ownsRow B 3 1 ev (es.length + 1) ((es ++ [e]).map iV)) : ∃ g k, ev = .slice (some ⟨g, 0, none⟩) (es.length + 1) k ∧ w.cell? ⟨g, es.length, none⟩ = some (.int .i64 (e : Int)) ∧ (es.length + 1 ≤ k ∧ k ≤ maxLen) ∧ ev.ownBlock = some g := by
  rcases h.2 with ⟨_, h0⟩ | ⟨g, cap, cur, rfl, hb, hg, hnc, hm, hs, ht⟩
  · omega
  · refine ⟨g, cap, rfl, ?_, ⟨hnc, hm⟩, rfl⟩
    have := h.cells (g := g) rfl es.length (iV e) (by simp)
    have e0 : (⟨g, 0, none⟩ : Addr).add es.length = ⟨g, es.length, none⟩ := by unfold Addr.add; split <;> simp_all
    rw [e0] at this
    exact this
theorem beN_snoc (l : List UInt8) (x : UInt8) : beN (l ++ [x]) = beN l * 256 + x.toNat := by unfold beN; rw [List.foldl_append]; rfl
theorem beN_lt (l : List UInt8) : beN l < 256 ^ l.length := by
  suffices h : ∀ (k : List UInt8) (a : Nat), k.foldl (fun n c => n * 256 + c.toNat) a < (a + 1) * 256 ^ k.length by
    have := h l 0
    simpa [beN] using this
  intro k
  induction k with
  | nil => intro a; simp
  | cons x t ih =>
    intro a
    rw [List.foldl_cons, List.length_cons, Nat.pow_succ]
    refine Nat.lt_of_lt_of_le (ih _) ?_
    have hx : x.toNat < 256 := x.toNat_lt
    have : a * 256 + x.toNat + 1 ≤ (a + 1) * 256 := by omega
    calc (a * 256 + x.toNat + 1) * 256 ^ t.length ≤ ((a + 1) * 256) * 256 ^ t.length := Nat.mul_le_mul_right _ this
      _ = (a + 1) * (256 ^ t.length * 256) := by rw [Nat.mul_assoc, Nat.mul_comm 256]
theorem beN_take {l : List UInt8} {j : Nat} {x : UInt8} (h : l[j]? = some x) : beN (l.take (j + 1)) = beN (l.take j) * 256 + x.toNat := by
  rw [List.take_add_one, h, Option.toList_some, beN_snoc]
theorem or8 (a : Nat) (x : UInt8) (h : a < 1099511627776) : bits .or IntKind.i64 ((a : Int) * 256) (x.toNat : Int) = ((a * 256 + x.toNat : Nat) : Int) := by
  have hx : x.toNat < 256 := x.toNat_lt
  show IntKind.i64.wrap (((BitVec.ofInt 64 ((a : Int) * 256) ||| BitVec.ofInt 64 (x.toNat : Int)).toNat : Nat) : Int) = _
  rw [show ((a : Int) * 256) = ((a * 256 : Nat) : Int) by omega, BitVec.ofInt_natCast, BitVec.ofInt_natCast, BitVec.toNat_or, BitVec.toNat_ofNat, BitVec.toNat_ofNat, Nat.mod_eq_of_lt (by omega), Nat.mod_eq_of_lt (by omega)]
  have e : a * 256 ||| x.toNat = a * 256 + x.toNat := by
    have := Nat.shiftLeft_add_eq_or_of_lt (i := 8) (b := x.toNat) (by omega) a
    rw [Nat.shiftLeft_eq] at this
    exact this.symm
  rw [e, wrap_in (by omega) (by omega)]
section
variable {W0 : World} {B r lb g0 : Nat} {A : Option Addr} {m c : Nat} {bs : List UInt8} {es : List Nat} {e : Nat}
set_option maxRecDepth 100000 in
theorem wrong_no (w : World) (p : Option Addr) : Calls Tryz.prog 84 #[.pointer p, .bool false] w fun e w' => e = .returned (.tuple #[]) ∧ w' = w := by
  go_enter Tryz.func84, Tryz.ntmps84
  go_wp2_with fail
  go_end0
  exact ⟨rfl, rfl⟩
set_option maxRecDepth 100000 in
theorem wrong_yes (w : World) (s : LS) (h : LkAt W0 B r lb g0 A m c es e s w) : Calls Tryz.prog 84 #[.pointer (some ⟨lb, 0, none⟩), .bool true] w fun e w' => e = .panicked (gu r 5) ∧ Keeps [] w w' := by
  obtain ⟨ev, h1, _⟩ := h.lk
  have c0 : w.cell? ⟨lb, 0, none⟩ = some (.pointer (some ⟨r, 0, none⟩)) := cell_of_block h1 0
  have HF := Lib.hid (fail_any w r _ _ h.rd 5 (by omega))
  clear h h1
  go_enter Tryz.func84, Tryz.ntmps84
  go_wp2_with fail
  refine HF.out.mono ?_
  rintro e w2 ⟨rfl, k2⟩
  have K2 := Lib.hid k2
  clear k2
  go_wp2_with fail
  exact ⟨rfl, rfl, K2.out⟩
set_option maxRecDepth 100000 in
set_option maxHeartbeats 2000000 in
theorem lleft_any (w : World) (s : LS) (h : LkAt W0 B r lb g0 A m c es e s w) : Calls Tryz.prog 119 #[.pointer (some ⟨lb, 0, none⟩)] w fun en w' => en = .returned (.int .i64 ((e - s.at_ : Nat) : Int)) ∧ Keeps [] w w' := by
  obtain ⟨ev, h1, h2, _⟩ := h.lk
  obtain ⟨g, k, rfl, ht, hk, _⟩ := top_cell h2
  have HS := Lib.hid (show w.drew.cell? ⟨lb, 0, none⟩ = some (.pointer (some ⟨r, 0, none⟩)) ∧ w.drew.cell? ⟨lb, 1, none⟩ = some (.slice (some ⟨g, 0, none⟩) (es.length + 1) k) ∧ w.drew.cell? ⟨g, es.length, none⟩ = some (.int .i64 (e : Int)) ∧ RdAt w.drew r (.slice A m c) s.at_ ∧ Keeps [] w w.drew from
    ⟨cell_of_block h1 0, cell_of_block h1 1, ht, h.rd, (Keeps.refl [] _).drew'⟩)
  have hlim := h.lim
  have htop := h.top
  obtain ⟨n, hn⟩ : ∃ n, es.length = n := ⟨_, rfl⟩
  rw [hn] at HS hk
  obtain ⟨a, ha⟩ : ∃ a, s.at_ = a := ⟨_, rfl⟩
  rw [ha] at HS htop ⊢
  obtain ⟨hk1, hk2⟩ := hk
  simp only [maxLen] at hk2
  obtain ⟨N, hN⟩ : ∃ N, n + 1 = N := ⟨_, rfl⟩
  rw [hN] at HS hk1
  have hn1 : IntKind.i64.wrap ((N : Int) - 1) = (n : Int) := by rw [IntKind.wrap_i64]; omega
  have hn1b : wrap64 ((N : Int) - 1) = (n : Int) := by unfold wrap64; omega
  have hn2 : (0 : Int) ≤ (n : Int) := by omega
  have hn3 : (n : Int) < (N : Int) := by omega
  have hsub : IntKind.i64.wrap ((e : Int) - (a : Int)) = ((e - a : Nat) : Int) := by rw [wrap_in] <;> omega
  have HW := Lib.hid hsub
  clear h h1 h2 ht hn ha
  go_enter Tryz.func119, Tryz.ntmps119
  go_wp2_with fail
  go_region_held3 (fun W => W.cell? ⟨lb, 0, none⟩ = some (.pointer (some ⟨r, 0, none⟩)) ∧ W.cell? ⟨lb, 1, none⟩ = some (.slice (some ⟨g, 0, none⟩) N k) ∧ W.cell? ⟨g, n, none⟩ = some (.int .i64 (e : Int)) ∧ RdAt W r (.slice A m c) a ∧ Keeps [] w W)
    (exact HS.out)
    (first | (go_at_call 121; refine (at_any _ r (.slice A m c) a HS.out.2.2.2.1).mono ?_; rintro e w2 ⟨rfl, rfl⟩))
  go_wp2_with fail
  go_ret
  exact ⟨rfl, HS.out.2.2.2.2⟩
theorem bytes_at (hx : Cxt W0 r lb g0 A m c bs) (w : World) (s : LS) (h : LkAt W0 B r lb g0 A m c es e s w) (n : Nat) (hne : s.at_ + n ≤ e) :
    Calls Tryz.prog 120 #[.pointer (some ⟨r, 0, none⟩), .int .i64 n] w fun en w' => match getL bs n s with
      | .error k => en = .panicked (gu r k) ∧ Keeps [] w w'
      | .ok (b, s') => ∃ A' c', en = .returned (.slice A' n c') ∧ BytesV w' (.slice A' n c') b ∧ LkAt W0 B r lb g0 A m c es e s' w' := by
  unfold getL
  rw [hx.bl]
  by_cases hs : m - s.at_ < n
  · rw [if_pos hs]
    exact bytes_short w r A m c s.at_ h.rd h.le hx.len n hs
  · rw [if_neg hs]
    refine (bytes_ok w r A m c s.at_ bs (hx.by_ w h.kp) h.rd h.le hx.len n (by omega)).mono ?_
    rintro en w' ⟨A', c', rfl, hb, hr, k⟩
    refine ⟨A', c', rfl, hb, ?_⟩
    obtain ⟨ev, h1, h2, h3⟩ := h.lk
    have hrl := hx.rl
    have hrg := hx.rg
    have hr0 := hx.r0
    exact {
      kp := h.kp.trans (k.mono (by simp))
      rd := hr
      lk := ⟨ev, (k.block lb (lt_of_block h1) (by simp; omega)).trans h1, own_keepS h2 k (fun j hj => by have := h3 j hj; simp; omega), h3⟩
      top := hne
      lim := h.lim
      le := by have := h.le; show s.at_ + n ≤ m; omega }
set_option maxRecDepth 100000 in
set_option maxHeartbeats 2000000 in
theorem skip_any (hx : Cxt W0 r lb g0 A m c bs) (w : World) (s : LS) (h : LkAt W0 B r lb g0 A m c es e s w) (n : Nat) (hn : n ≤ 100000000) :
    Calls Tryz.prog 122 #[.pointer (some ⟨lb, 0, none⟩), .int .i64 n] w fun en w' => Out W0 B r lb g0 A m c es e (skipL bs n e s) en w' := by
  have HLT := Lib.hid (lleft_any w s h)
  have H := Lib.hid h
  have HX := Lib.hid hx
  have hle := h.le
  have hb := hx.bl
  obtain ⟨res, hres⟩ : ∃ res, skipL bs n e s = res := ⟨_, rfl⟩
  rw [hres]
  unfold skipL at hres
  clear h hx hb
  by_cases h1 : e - s.at_ < n
  · rw [if_pos h1] at hres
    subst hres
    have h1' : ((e - s.at_ : Nat) : Int) < (n : Int) := by omega
    go_enter Tryz.func122, Tryz.ntmps122
    go_wp2_with fail
    refine HLT.out.mono ?_
    rintro en w2 ⟨rfl, k2⟩
    have HW := Lib.hid (wrong_yes w2 s (H.out.keep0 k2))
    have K2 := Lib.hid k2
    clear k2 HLT
    go_wp2_with fail
    refine HW.out.mono ?_
    rintro en w3 ⟨rfl, k3⟩
    have K3 := Lib.hid (K2.out.trans k3)
    clear k3
    go_wp2_with fail
    exact ⟨rfl, rfl, H.out.kp.trans (K3.out.mono (by simp)), _, H.out.rd.keep K3.out (by simp)⟩
  · rw [if_neg h1] at hres
    have h1' : ¬ ((e - s.at_ : Nat) : Int) < (n : Int) := by omega
    go_enter Tryz.func122, Tryz.ntmps122
    go_wp2_with fail
    refine HLT.out.mono ?_
    rintro en w2 ⟨rfl, k2⟩
    have H2 := Lib.hid (H.out.keep0 k2)
    obtain ⟨ev, hlk, _⟩ := H2.out.lk
    have c0 : w2.cell? ⟨lb, 0, none⟩ = some (.pointer (some ⟨r, 0, none⟩)) := cell_of_block hlk 0
    have HWN := Lib.hid (wrong_no w2 (some ⟨lb, 0, none⟩))
    clear k2 HLT hlk
    go_wp2_with fail
    refine HWN.out.mono ?_
    rintro en w3 ⟨rfl, h3⟩
    obtain rfl := h3.symm
    have HBY := Lib.hid (bytes_at HX.out w2 s H2.out n (by have := H2.out.top; omega))
    clear h3 HWN
    go_wp2_with fail
    cases hg : getL bs n s with
    | error k =>
      rw [hg] at hres HBY
      subst hres
      refine HBY.out.mono ?_
      rintro en w4 ⟨rfl, k4⟩
      have K4 := Lib.hid k4
      clear k4 HBY hg c0
      go_wp2_with fail
      exact ⟨rfl, rfl, H2.out.kp.trans (K4.out.mono (by simp)), _, H2.out.rd.keep K4.out (by simp)⟩
    | ok p =>
      obtain ⟨b, s'⟩ := p
      rw [hg] at hres HBY
      subst hres
      refine HBY.out.mono ?_
      rintro en w4 ⟨A', c', rfl, hb4, h4⟩
      have H4 := Lib.hid h4
      clear h4 HBY hg c0 hb4
      go_wp2_with fail
      go_end0
      exact ⟨rfl, H4.out⟩
set_option maxRecDepth 100000 in
set_option maxHeartbeats 4000000 in
theorem number_any (hx : Cxt W0 r lb g0 A m c bs) (w : World) (s : LS) (h : LkAt W0 B r lb g0 A m c es e s w) (n : Nat) (hn : n ≤ 3) :
    Calls Tryz.prog 85 #[.pointer (some ⟨lb, 0, none⟩), .int .i64 n] w fun en w' => match numL bs n e s with
      | .ok (v, s') => en = .returned (.int .i64 (v : Int)) ∧ LkAt W0 B r lb g0 A m c es e s' w'
      | .error k => en = .panicked (gu r k) ∧ Keeps [r, lb, g0] W0 w' ∧ ∃ a, RdAt w' r (.slice A m c) a := by
  have HLT := Lib.hid (lleft_any w s h)
  have H := Lib.hid h
  have HX := Lib.hid hx
  obtain ⟨res, hres⟩ : ∃ res, numL bs n e s = res := ⟨_, rfl⟩
  rw [hres]
  unfold numL at hres
  clear h hx
  by_cases h1 : e - s.at_ < n
  · rw [if_pos h1] at hres
    subst hres
    have h1' : ((e - s.at_ : Nat) : Int) < (n : Int) := by omega
    go_enter Tryz.func85, Tryz.ntmps85
    go_wp2_with fail
    refine HLT.out.mono ?_
    rintro en w2 ⟨rfl, k2⟩
    have HW := Lib.hid (wrong_yes w2 s (H.out.keep0 k2))
    have K2 := Lib.hid k2
    clear k2 HLT
    go_wp2_with fail
    refine HW.out.mono ?_
    rintro en w3 ⟨rfl, k3⟩
    have K3 := Lib.hid (K2.out.trans k3)
    clear k3
    go_wp2_with fail
    exact ⟨rfl, rfl, H.out.kp.trans (K3.out.mono (by simp)), _, H.out.rd.keep K3.out (by simp)⟩
  · rw [if_neg h1] at hres
    have h1' : ¬ ((e - s.at_ : Nat) : Int) < (n : Int) := by omega
    go_enter Tryz.func85, Tryz.ntmps85
    go_wp2_with fail
    refine HLT.out.mono ?_
    rintro en w2 ⟨rfl, k2⟩
    have H2 := Lib.hid (H.out.keep0 k2)
    obtain ⟨ev, hlk, _⟩ := H2.out.lk
    have c0 : w2.cell? ⟨lb, 0, none⟩ = some (.pointer (some ⟨r, 0, none⟩)) := cell_of_block hlk 0
    have HWN := Lib.hid (wrong_no w2 (some ⟨lb, 0, none⟩))
    have HBY := Lib.hid (bytes_at HX.out w2 s H2.out n (by have := H2.out.top; omega))
    clear k2 HLT hlk
    go_wp2_with fail
    refine HWN.out.mono ?_
    rintro en w3 ⟨rfl, h3⟩
    obtain rfl := h3.symm
    clear h3 HWN
    go_wp2_with fail
    cases hg : getL bs n s with
    | error k =>
      rw [hg] at hres HBY
      subst hres
      refine HBY.out.mono ?_
      rintro en w4 ⟨rfl, k4⟩
      have K4 := Lib.hid k4
      clear k4 HBY hg c0
      go_wp2_with fail
      exact ⟨rfl, rfl, H2.out.kp.trans (K4.out.mono (by simp)), _, H2.out.rd.keep K4.out (by simp)⟩
    | ok p =>
      obtain ⟨b, s'⟩ := p
      rw [hg] at hres HBY
      subst hres
      refine HBY.out.mono ?_
      rintro en w4 ⟨A', c', rfl, hb4, h4⟩
      have H4 := Lib.hid h4
      have HB4 := Lib.hid hb4
      have hbl : b.length = n := hb4.form.1.symm
      have HBL := Lib.hid hbl
      clear h4 HBY hg c0 hb4 hbl
      go_wp2_with fail
      go_loopw [5, 21] (fun nv kv wr => ∃ j : Nat, kv = .int .i64 j ∧ j ≤ n ∧ nv = .int .i64 (beN (b.take j) : Nat) ∧ Hid (Keeps [] w4 wr)) (fun _ kv _ => n - (intOf kv).toNat)
      case atStart => exact ⟨0, rfl, by omega, by simp [beN], Lib.hid (Keeps.refl _ _)⟩
      case round =>
        obtain ⟨j, rfl, hj, rfl, HK⟩ := hrel
        have hv := beN_lt (b.take j)
        have hvl : (b.take j).length = j := by rw [List.length_take, HBL.out]; omega
        rw [hvl] at hv
        have hv2 : beN (b.take j) < 16777216 := Nat.lt_of_lt_of_le hv (Nat.pow_le_pow_right (by omega) (show j ≤ 3 by omega))
        obtain ⟨v, hve⟩ : ∃ v, beN (b.take j) = v := ⟨_, rfl⟩
        rw [hve] at hv2 ⊢
        by_cases hlt : j < n
        · have hlt' : (j : Int) < (n : Int) := by omega
          have hj0 : (0 : Int) ≤ (j : Int) := by omega
          obtain ⟨x, hxx⟩ : ∃ x, b[j]? = some x := ⟨_, List.getElem?_eq_getElem (by rw [HBL.out]; exact hlt)⟩
          obtain ⟨g, o, rfl, hc⟩ := (HB4.out.keep0 HK.out).get (by omega)
          have cj : wr.cell? ⟨g, o + j, none⟩ = some (.int .u8 (x.toNat : Int)) := hc j x hxx
          have hor := or8 v x (by omega)
          have HN := Lib.hid (show beN (b.take (j + 1)) = v * 256 + x.toNat by rw [beN_take hxx, hve])
          have hxl : x.toNat < 256 := x.toNat_lt
          clear hc hxx hve hv hvl
          go_wp2_with fail
          refine ⟨⟨j + 1, by simp, hlt, by rw [HN.out]; simp, HK⟩, ?_⟩
          have e1 : (intOf (Value.int .i64 ((j : Int) + 1))).toNat = j + 1 := by show ((j : Int) + 1).toNat = j + 1; omega
          have e2 : (intOf (Value.int .i64 (j : Int))).toNat = j := by show ((j : Int)).toNat = j; omega
          rw [e1, e2]
          omega
        · obtain rfl : j = n := by omega
          have hlt' : ¬ (j : Int) < (j : Int) := by omega
          have HV := Lib.hid (show beN b = v by rw [← hve, List.take_of_length_le (by rw [HBL.out]; exact Nat.le_refl _)])
          go_wp2_with fail
          go_ret
          refine ⟨?_, H4.out.keep0 HK.out⟩
          rw [HV.out]
          rfl
end
end Go.Proofs.YtpoheemjdieogaaGreatDoor
