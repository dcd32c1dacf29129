/-
  The walks of package endp (2): acks, window; a client's segment that is only answered, or that resets. Condition: the numbers are in the ranges of their kinds.
-/
import Derived.Test.YtakgohocimlagaaGreatEpA
namespace Go.Proofs.YtakgohocimlagaaGreat
open Go.RowKit
set_option linter.unusedVariables false
set_option linter.unusedSimpArgs false

def segC (s : Seg) (ov dv : Value) : List Value := [.int .u16 s.sp, .int .u16 s.dp, .int .u32 s.sq, .int .u32 s.ak, .int .u8 s.fl, .int .u16 s.wn, .int .u16 s.ug, ov, dv]
/-- v is a row of its own with the segment g alone, which has neither options nor data. -/
def OneAck (n : Nat) (w : World) (v : Value) (g : Seg) : Prop := ∃ r, v = .slice (some ⟨r, 0, none⟩) 1 1 ∧ n ≤ r ∧ w.heap[r]? = some (.cells (segC g (.slice none 0 0) (.slice none 0 0)).toArray 39 (0, 0))
theorem OneAck.mono {n m : Nat} {w w' : World} {v : Value} {g : Seg} (h : OneAck n w v g) (k : Keeps [] w w') (hm : m ≤ n) : OneAck m w' v g := by
  obtain ⟨r, e, h1, h2⟩ := h
  exact ⟨r, e, Nat.le_trans hm h1, (k.block r (lt_of_block h2) (by simp)).trans h2⟩
/-- nil, or one segment -/
def Told (n : Nat) (w : World) (v : Value) (is : Bool) (g : Seg) : Prop := (is = false ∧ v = .slice none 0 0) ∨ (is = true ∧ OneAck n w v g)
theorem Told.mono {n m : Nat} {w w' : World} {v : Value} {is : Bool} {g : Seg} (h : Told n w v is g) (k : Keeps [] w w') (hm : m ≤ n) : Told m w' v is g := by
  rcases h with h | ⟨h1, h2⟩
  · exact .inl h
  · exact .inr ⟨h1, h2.mono k hm⟩

set_option maxRecDepth 100000 in
set_option maxHeartbeats 1000000 in
theorem eacksC_any {w : World} {x b mb : Nat} {s : ES} {st : BS} (h : EndAt w x s) (ok : s.Ok) (h1 : 2 ≤ s.st) (hi : s.inp = .pointer (some ⟨b, 0, none⟩)) (hb : BuffAt w b mb st) (okb : st.ok) (is : Bool) :
    Calls Tryz.prog 63 #[.pointer (some ⟨x, 0, none⟩), .bool is] w fun e w' => ∃ v, e = .returned v ∧ Told w.heap.size w' v is (s.ackC st) ∧ Keeps [] w w' := by
  have HA := Lib.hid (eackC_any h ok h1 hi hb okb)
  clear h ok h1 hi hb okb
  cases is
  · go_enter Tryz.func63, Tryz.ntmps63
    go_wp2
    go_ret
    exact ⟨_, rfl, .inl ⟨rfl, rfl⟩, Keeps.refl _ _⟩
  · go_enter Tryz.func63, Tryz.ntmps63
    go_wp2_with fail
    refine HA.out.mono ?_
    rintro e w1 ⟨rfl, k1⟩
    have K1 := Lib.hid k1
    have hz := k1.size
    clear k1
    unfold ES.ackC segV
    go_wp2_with fail
    go_ret
    exact ⟨_, rfl, .inr ⟨rfl, _, rfl, hz, (MapKept.heap_alloc w1 _).1⟩, K1.out.alloc' _⟩

/-- what a window field tells, by the scale -/
def winI (wn scl : Int) : Int := (wn * 2 ^ (max scl 0).toNat) % 4294967296
set_option maxRecDepth 100000 in
set_option maxHeartbeats 1000000 in
theorem ewindow_any {w : World} {x : Nat} {s : ES} (h : EndAt w x s) (hs : -1 ≤ s.scl ∧ s.scl ≤ 14) (g : Seg) (ov dv : Value) (hw : 0 ≤ g.wn ∧ g.wn ≤ 65535) :
    Calls Tryz.prog 67 #[.pointer (some ⟨x, 0, none⟩), segV g ov dv] w fun e w' => e = .returned (.int .u32 (winI g.wn s.scl)) ∧ Keeps [] w w' := by
  have c12 := h.c12
  have p12 := fun o => keeps_cell0 (o := o) c12
  obtain ⟨s0, s1⟩ := hs
  obtain ⟨w0, w1⟩ := hw
  clear h
  unfold segV
  rcases Int.lt_or_le s.scl 0 with hs | hs
  · have hm : max s.scl 0 = 0 := by omega
    have F := Lib.hid (show winI g.wn s.scl = g.wn by unfold winI; rw [hm]; simp <;> omega)
    go_enter Tryz.func67, Tryz.ntmps67
    go_wp2_with fail
    go_quiet (fail)
    go_wp2_with fail
    go_ret
    exact ⟨ret_i F.out.symm, ((Keeps.refl _ _).alloc' _).drewN' _⟩
  · have hm : max s.scl 0 = s.scl := by omega
    have F := Lib.hid (show winI g.wn s.scl = g.wn * 2 ^ s.scl.toNat % 4294967296 by unfold winI; rw [hm])
    go_enter Tryz.func67, Tryz.ntmps67
    go_wp2_with fail
    go_quiet (fail)
    go_wp2_with fail
    go_ret
    exact ⟨ret_i F.out.symm, ((Keeps.refl _ _).alloc' _).drewN' _⟩

/-! ### client -/
/-- An end towards a client, as it lies in memory: the bytes tl were taken; all of it lies at or behind B. -/
structure Cli (w : World) (B x b mb : Nat) (s : ES) (st : BS) (tl : List UInt8) : Prop where
  e : EndAt w x s
  ok : s.Ok
  st2 : 2 ≤ s.st
  inp : s.inp = .pointer (some ⟨b, 0, none⟩)
  out : s.out = .pointer none
  wri : s.wri = .slice none 0 0
  bf : BuffAt w b mb st
  okb : st.ok
  own : w.ownsRow B 5 1 s.tak tl.length (tl.map u8V)
  sep : ∀ j, s.tak.ownBlock = some j → j ≠ x ∧ j ≠ b ∧ j ≠ mb
  xb : x ≠ b
  xm : x ≠ mb
  zx : B ≤ x
  zb : B ≤ b
  zm : B ≤ mb
  len : tl.length = st.taken
def footC (x b mb : Nat) (s : ES) : List Nat := x :: b :: mb :: s.tak.ownBlock.toList
theorem Cli.keep {w w' : World} {B x b mb : Nat} {s : ES} {st : BS} {tl : List UInt8} {S : List Nat} (h : Cli w B x b mb s st tl) (k : Keeps S w w') (hS : ∀ j ∈ footC x b mb s, j ∉ S) : Cli w' B x b mb s st tl :=
  ⟨h.e.keep k (hS x (by simp [footC])), h.ok, h.st2, h.inp, h.out, h.wri, h.bf.keep k (hS b (by simp [footC])) (hS mb (by simp [footC])), h.okb, by
    refine ⟨h.own.1, ?_⟩
    rcases h.own.2 with h0 | ⟨g, cap, cur, e, hb, hg, hr⟩
    · exact .inl h0
    · exact .inr ⟨g, cap, cur, e, hb, (k.block g (lt_of_block hg) (hS g (by simp [footC, e, Value.ownBlock]))).trans hg, hr⟩, h.sep, h.xb, h.xm, h.zx, h.zb, h.zm, h.len⟩
theorem Cli.keep0 {w w' : World} {B x b mb : Nat} {s : ES} {st : BS} {tl : List UInt8} (h : Cli w B x b mb s st tl) (k : Keeps [] w w') : Cli w' B x b mb s st tl := h.keep k (by simp)

theorem lenI_bd {g : Seg} (ok : g.Ok) : 0 ≤ lenI g ∧ lenI g ≤ 4294967295 := by
  have := ok.len
  unfold lenI
  have h1 : 0 ≤ bI (has g.fl 2) ∧ bI (has g.fl 2) ≤ 1 := by cases has g.fl 2 <;> simp [bI]
  have h2 : 0 ≤ bI (has g.fl 1) ∧ bI (has g.fl 1) ≤ 1 := by cases has g.fl 1 <;> simp [bI]
  omega
/-- what a client's segment is taken as: 0 nothing, 1 an answer alone, 2 a reset, 3 it is taken -/
def cliK (s : ES) (st : BS) (g : Seg) : Nat :=
  if has g.fl 2 then 1 else
  if has g.fl 4 then (if g.sq = st.next then 2 else if withinI g.sq st.next (st.room - st.taken) then 1 else 0) else
  if has g.fl 16 = false then 0 else
  if g.ak ≠ (s.iss + 1) % 4294967296 ∨ acceptI g.sq (lenI g) st.next (st.room - st.taken) = false then 1 else 3

end Go.Proofs.YtakgohocimlagaaGreat
