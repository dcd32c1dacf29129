/-
  The walks of package sniff: Look at any bytes (at most 90,000), New, Take, Close, Told, Bytes, Room of a sniffer in memory. Condition: the library's variables lie as listed.
-/
import Derived.Test.YtpoheemjdieogaaGreatDoorSnP
import Derived.Test.YtpoheemjdieogaaGreatDoorHttpK
import Derived.Test.YtpoheemjdieogaaGreatDoorKitC
import Derived.Deep.RegionHeld3
namespace Go.Proofs.YtpoheemjdieogaaGreatDoor
open Go.RowKit Go.Lib
set_option linter.unusedVariables false
set_option linter.unusedSimpArgs false

theorem bs_eq (l : List UInt8) : bs l = ⟨l.toArray⟩ := rfl
set_option maxRecDepth 100000 in
theorem slook_any (w : World) (hw : LW w) (A : Option Addr) (n c : Nat) (b : List UInt8) (hb : BytesV w (.slice A n c) b) (hn : n ≤ 90000) :
    Calls Tryz.prog 26 #[.slice A n c] w fun en w' => en = .returned (.tuple #[.int .i64 (look0 b).1, .string (look0 b).2]) ∧ Keeps [] w w' := by
  obtain ⟨hl, _, _⟩ := hb.form
  have HB := Lib.hid hb
  have HW := Lib.hid hw
  cases b with
  | nil =>
    have hn0 : n = 0 := by simpa using hl
    subst hn0
    clear hb hw hl
    go_enter Tryz.func26, Tryz.ntmps26
    go_wp2_with fail
    go_ret2
    exact ⟨rfl, Keeps.refl _ _⟩
  | cons x t =>
    have hn0 : ¬ n = 0 := by rw [hl]; simp
    have hn1 : 0 < n := by omega
    obtain ⟨g, o, rfl, hcell⟩ := hb.get hn1
    have c0 : w.cell? ⟨g, o, none⟩ = some (.int .u8 (x.toNat : Int)) := hcell 0 x rfl
    obtain ⟨res, hres⟩ : ∃ r, look0 (x :: t) = r := ⟨_, rfl⟩
    rw [hres]
    have HRES := Lib.hid hres
    have HT := Lib.hid (look_B w hw _ _ hb (by omega))
    have HH := Lib.hid (hlook_B w hw _ _ hb (by omega))
    clear hb hw hl hcell hres
    by_cases hx : x = 22
    · have hxi : ((x.toNat : Int) == 22) = true := by subst hx; rfl
      have hr : res = lookP (x :: t) := by rw [← HRES.out]; exact if_pos hx
      subst hr
      clear hx
      go_enter Tryz.func26, Tryz.ntmps26
      go_wp2_with fail
      refine HT.out.mono ?_
      rintro en w1 ⟨rfl, k1⟩
      have K1 := Lib.hid k1
      clear k1
      go_wp2_with fail
      go_ret2
      exact ⟨rfl, K1.out⟩
    · have hxi : ((x.toNat : Int) == 22) = false := by
        rw [beq_eq_false_iff_ne]
        intro h
        exact hx (UInt8.toNat_inj.1 (show x.toNat = (22 : UInt8).toNat by have : (22 : UInt8).toNat = 22 := rfl; omega))
      have hr : res = ((lookH (x :: t)).1, bs (lookH (x :: t)).2) := by rw [← HRES.out]; exact if_neg hx
      subst hr
      clear hx
      go_enter Tryz.func26, Tryz.ntmps26
      go_wp2_with fail
      refine HH.out.mono ?_
      rintro en w1 ⟨rfl, k1⟩
      have K1 := Lib.hid k1
      clear k1
      go_wp2_with fail
      go_ret2
      exact ⟨rfl, K1.out⟩
set_option maxRecDepth 100000 in
theorem Slook_any (w : World) (hw : LW w) (A : Option Addr) (n c : Nat) (b : List UInt8) (hb : BytesV w (.slice A n c) b) (hn : n ≤ 90000) (most : Int) (closed : Bool) :
    Calls Tryz.prog 9 #[.slice A n c, .int .i64 most, .bool closed] w fun en w' => en = .returned (.tuple #[.int .i64 (lookS b most closed).1, .string (lookS b most closed).2]) ∧ Keeps [] w w' := by
  obtain ⟨hl, _, _⟩ := hb.form
  have HT := Lib.hid (slook_any w hw A n c b hb hn)
  obtain ⟨res, hres⟩ : ∃ r, lookS b most closed = r := ⟨_, rfl⟩
  rw [hres]
  have HRES := Lib.hid hres
  obtain ⟨y, hy⟩ : ∃ y, look0 b = y := ⟨_, rfl⟩
  obtain ⟨k, nm⟩ := y
  rw [hy] at HT
  have hd : res = if k ≠ 0 then (k, nm) else if most ≤ (n : Int) then (3, ByteArray.empty) else if closed = true then (2, ByteArray.empty) else (0, ByteArray.empty) := by
    rw [← hres]; unfold lookS; rw [hy, hl]
  have HD := Lib.hid hd
  clear hb hw hl hres hy hd
  by_cases hk : k = 0
  · subst hk
    by_cases hm : most ≤ (n : Int)
    · have hr : res = (3, ByteArray.empty) := by rw [HD.out]; simp [hm]
      subst hr
      clear HD HRES
      go_enter Tryz.func9, Tryz.ntmps9
      go_wp2_with fail
      refine HT.out.mono ?_
      rintro en w1 ⟨rfl, k1⟩
      have K1 := Lib.hid k1
      clear k1
      go_wp2_with fail
      go_ret2
      exact ⟨rfl, K1.out⟩
    · cases closed with
      | true =>
        have hr : res = (2, ByteArray.empty) := by rw [HD.out]; simp [hm]
        subst hr
        clear HD HRES
        go_enter Tryz.func9, Tryz.ntmps9
        go_wp2_with fail
        refine HT.out.mono ?_
        rintro en w1 ⟨rfl, k1⟩
        have K1 := Lib.hid k1
        clear k1
        go_wp2_with fail
        go_ret2
        exact ⟨rfl, K1.out⟩
      | false =>
        have hr : res = (0, ByteArray.empty) := by rw [HD.out]; simp [hm]
        subst hr
        clear HD HRES
        go_enter Tryz.func9, Tryz.ntmps9
        go_wp2_with fail
        refine HT.out.mono ?_
        rintro en w1 ⟨rfl, k1⟩
        have K1 := Lib.hid k1
        clear k1
        go_wp2_with fail
        go_ret2
        exact ⟨rfl, K1.out⟩
  · have hr : res = (k, nm) := by rw [HD.out]; simp [hk]
    subst hr
    clear HD HRES
    go_enter Tryz.func9, Tryz.ntmps9
    go_wp2_with fail
    refine HT.out.mono ?_
    rintro en w1 ⟨rfl, k1⟩
    have K1 := Lib.hid k1
    clear k1
    go_wp2_with fail
    go_ret2
    exact ⟨rfl, K1.out⟩
theorem Slook_B (w : World) (hw : LW w) (v : Value) (b : List UInt8) (hb : BytesV w v b) (hn : b.length ≤ 90000) (most : Int) (closed : Bool) :
    Calls Tryz.prog 9 #[v, .int .i64 most, .bool closed] w fun en w' => en = .returned (.tuple #[.int .i64 (lookS b most closed).1, .string (lookS b most closed).2]) ∧ Keeps [] w w' := by
  obtain ⟨A, c, rfl, h1⟩ := hb
  exact Slook_any w hw A b.length c b ⟨A, c, rfl, h1⟩ hn most closed

/-- the sniffer's cells -/
def SnB (w : World) (p : Nat) (v : Value) (s : SS) : Prop := w.heap[p]? = some (.cells #[v, .int .i64 (s.most : Int), .bool s.closed, .int .i64 s.told, .string s.name] 65 (0, 0))
/-- a sniffer in memory: its bytes lie in a row of its own, that is not older than B -/
def SnAt (w : World) (B p : Nat) (s : SS) : Prop := p < B ∧ B ≤ w.heap.size ∧ ∃ v, SnB w p v s ∧ OwnB w B v s.b
theorem SnAt.keepS {w w' : World} {B p : Nat} {s : SS} {S : List Nat} (h : SnAt w B p s) (k : Keeps S w w') (hp : p ∉ S) (hS : ∀ x ∈ S, x < B) : SnAt w' B p s := by
  obtain ⟨h0, h1, v, h2, h3⟩ := h
  refine ⟨h0, Nat.le_trans h1 k.size, v, (k.block p (lt_of_block h2) hp).trans h2, own_keepS h3 k fun j hj hm => ?_⟩
  have := hS j hm
  have := (World.ownsRow.lt h3 j hj).1
  omega
theorem SnAt.keep0 {w w' : World} {B p : Nat} {s : SS} (h : SnAt w B p s) (k : Keeps [] w w') : SnAt w' B p s := h.keepS k (by simp) (by simp)
theorem SnAt.lt {w : World} {B p : Nat} {s : SS} (h : SnAt w B p s) : p < w.heap.size := by
  obtain ⟨h0, h1, _⟩ := h; omega
end Go.Proofs.YtpoheemjdieogaaGreatDoor
