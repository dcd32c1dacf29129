/-
  A sniffer that is none; Take and Close by what comes out. Condition: the library's variables lie as listed. The walks of the document's sniffer: New, look, Take, Close; bytes.Equal. No condition. Rows of bytes as they come in; a sniffer of either sort that takes bytes which are changed behind that. Condition: the library's variables lie as listed.
-/
import Derived.Test.YtpoheemjdieogaaGreatDoorSnQ
import Derived.Test.YtpoheemjdieogaaGreatDoorHrP
import Derived.Deep.RegionHeldLaw
import Derived.Test.YtpoheemjdieogaaGreatDoorSnZ
import Derived.HandedShaped
namespace Go.Proofs.YtpoheemjdieogaaGreatDoor
open Go.RowKit Go.Lib
set_option linter.unusedVariables false
set_option linter.unusedSimpArgs false

theorem anew_nil (w : World) (fv : Value) : Calls Tryz.prog 29 #[.pointer none, fv] w fun e w' => e = .returned (.tuple #[.int .i64 0, .string ByteArray.empty, .int .i64 2]) ∧ w' = w := by
  have HN := Lib.hid (snone_nil w)
  go_enter Tryz.func29, Tryz.ntmps29
  go_wp2_with fail
  refine HN.out.mono ?_
  rintro e w1 ⟨rfl, h1⟩
  obtain rfl := h1.symm
  clear HN h1
  go_wp2_with fail
  go_ret3
  exact ⟨rfl, rfl⟩
theorem sclose_nil (w : World) : Calls Tryz.prog 14 #[.pointer none] w fun e w' => e = .returned (.tuple #[.int .i64 0, .string ByteArray.empty, .int .i64 2]) ∧ Keeps [] w w' := by
  have hmf : ∀ (fn : Fn) (first cap : Array Value) (w : World), (Instr.makeFunc fn first cap).run Tryz.prog w = .ok (.func fn first cap) w := fun _ _ _ _ => rfl
  obtain ⟨X, hX⟩ : ∃ X, w.heap.size = X := ⟨_, rfl⟩
  obtain ⟨w1, hw1⟩ : ∃ w1, w.alloc (.cells #[.pointer none] 30) = w1 := ⟨_, rfl⟩
  have k1 : Keeps [] w w1 := by rw [← hw1]; exact Keeps.alloc [] w _
  have h1 : w1.heap[X]? = some (.cells #[.pointer none] 30 (0, 0)) := by rw [← hw1, ← hX]; exact (MapKept.heap_alloc w _).1
  have cx : w1.cell? ⟨X, 0, none⟩ = some (.pointer none) := cell_of_block h1 0
  have HK := Lib.hid k1
  clear k1 h1
  go_enter Tryz.func14, Tryz.ntmps14
  go_wp2_with fail
  refine (anew_nil w1 _).mono ?_
  rintro e w2 ⟨rfl, rfl⟩
  go_wp2_with fail
  go_ret3
  exact ⟨rfl, HK.out⟩
theorem stold_nil (w : World) : Calls Tryz.prog 15 #[.pointer none] w fun e w' => e = .returned (.tuple #[.int .i64 0, .string ByteArray.empty]) ∧ w' = w := by
  have HN := Lib.hid (snone_nil w)
  go_enter Tryz.func15, Tryz.ntmps15
  go_wp2_with fail
  refine HN.out.mono ?_
  rintro e w1 ⟨rfl, h1⟩
  obtain rfl := h1.symm
  clear HN h1
  go_wp2_with fail
  go_ret2
  exact ⟨rfl, rfl⟩
theorem sbytes_nil (w : World) : Calls Tryz.prog 20 #[.pointer none] w fun e w' => e = .returned (.slice none 0 0) ∧ w' = w := by
  have HN := Lib.hid (snone_nil w)
  go_enter Tryz.func20, Tryz.ntmps20
  go_wp2_with fail
  refine HN.out.mono ?_
  rintro e w1 ⟨rfl, h1⟩
  obtain rfl := h1.symm
  clear HN h1
  go_wp2_with fail
  go_ret
  exact ⟨rfl, rfl⟩
theorem sroom_nil (w : World) : Calls Tryz.prog 21 #[.pointer none] w fun e w' => e = .returned (.int .i64 0) ∧ w' = w := by
  have HN := Lib.hid (snone_nil w)
  go_enter Tryz.func21, Tryz.ntmps21
  go_wp2_with fail
  refine HN.out.mono ?_
  rintro e w1 ⟨rfl, h1⟩
  obtain rfl := h1.symm
  clear HN h1
  go_wp2_with fail
  go_ret
  exact ⟨rfl, rfl⟩
theorem ans_ok {s s' : SS} (h : tellS s = s') : ansV (ansS (0, s)).1 = .tuple #[.int .i64 s'.told, .string s'.name, .int .i64 0] := by unfold ansS; rw [if_neg (by simp), h]; rfl
theorem ans_no {s : SS} {k : Int} (h : k ≠ 0) : ansV (ansS (k, s)).1 = .tuple #[.int .i64 0, .string ByteArray.empty, .int .i64 k] := by unfold ansS; rw [if_pos h]; rfl
/-- Take where it goes well; where it does not -/
theorem stake_ok (w : World) (B p : Nat) (s s1 s2 : SS) (hw : ∀ x, Keeps [p] w x → LW x) (hs : SnAt w B p s) (ok : SOk s) (A : Option Addr) (n c : Nat) (b : List UInt8) (hb : BytesV w (.slice A n c) b) (hm : n ≤ 9223372036854775807) (h1 : takeS s b = (0, s1)) (h2 : tellS s1 = s2) :
    Calls Tryz.prog 13 #[.pointer (some ⟨p, 0, none⟩), .slice A n c] w fun e w' => e = .returned (.tuple #[.int .i64 s2.told, .string s2.name, .int .i64 0]) ∧ SnAt w' B p s2 ∧ Keeps [p] w w' := by
  refine (stake_any w B p s hw hs ok A n c b hb hm).mono ?_
  rintro e w' ⟨rfl, -, h⟩
  rw [h1] at h ⊢
  have h3 := h rfl
  dsimp only at h3
  rw [h2] at h3
  exact ⟨by rw [ans_ok h2], h3.1.weak hs.2.1 hs.1, h3.2⟩
theorem stake_no (w : World) (B p : Nat) (s s1 : SS) (k : Int) (hw : ∀ x, Keeps [p] w x → LW x) (hs : SnAt w B p s) (ok : SOk s) (A : Option Addr) (n c : Nat) (b : List UInt8) (hb : BytesV w (.slice A n c) b) (hm : n ≤ 9223372036854775807) (h1 : takeS s b = (k, s1)) (hk : k ≠ 0) :
    Calls Tryz.prog 13 #[.pointer (some ⟨p, 0, none⟩), .slice A n c] w fun e w' => e = .returned (.tuple #[.int .i64 0, .string ByteArray.empty, .int .i64 k]) ∧ Keeps [] w w' := by
  refine (stake_any w B p s hw hs ok A n c b hb hm).mono ?_
  rintro e w' ⟨rfl, h, -⟩
  rw [h1] at h ⊢
  exact ⟨by rw [ans_no hk], h hk⟩
theorem sclose_ok (w : World) (B p : Nat) (s s' : SS) (hw : ∀ x, Keeps [p] w x → LW x) (hs : SnAt w B p s) (ok : SOk s) (h : tellS { s with closed := true } = s') :
    Calls Tryz.prog 14 #[.pointer (some ⟨p, 0, none⟩)] w fun e w' => e = .returned (.tuple #[.int .i64 s'.told, .string s'.name, .int .i64 0]) ∧ SnAt w' B p s' ∧ Keeps [p] w w' := by
  refine (sclose_any w B p s hw hs ok).mono ?_
  rintro e w' ⟨rfl, h1, h2⟩
  rw [h] at h1
  exact ⟨by rw [ans_ok h], h1, h2⟩
end Go.Proofs.YtpoheemjdieogaaGreatDoor

namespace Go.Proofs.YtpoheemjdieogaaGreatDoor
open Go.RowKit Go.Lib
set_option linter.unusedVariables false
set_option linter.unusedSimpArgs false

/-- the document's sniffer's cells -/
def RfB (w : World) (p : Nat) (v : Value) (s : SS) : Prop := w.heap[p]? = some (.cells #[v, .int .i64 (s.most : Int), .bool s.closed, .int .i64 s.told, .string s.name] 60 (0, 0))
/-- the document's sniffer in memory: its bytes lie in a row of its own, that is not older than B -/
def RfAt (w : World) (B p : Nat) (s : SS) : Prop := p < B ∧ B ≤ w.heap.size ∧ ∃ v, RfB w p v s ∧ OwnB w B v s.b
def Stop (p : Prop) : Prop := p
theorem stop_here {p : Prop} (h : Stop p) : p := h
theorem RfAt.keepS {w w' : World} {B p : Nat} {s : SS} {S : List Nat} (h : RfAt w B p s) (k : Keeps S w w') (hp : p ∉ S) (hS : ∀ x ∈ S, x < B) : RfAt w' B p s := by
  obtain ⟨h0, h1, v, h2, h3⟩ := h
  refine ⟨h0, Nat.le_trans h1 k.size, v, (k.block p (lt_of_block h2) hp).trans h2, own_keepS h3 k fun j hj hm => ?_⟩
  have := hS j hm
  have := (World.ownsRow.lt h3 j hj).1
  omega
theorem RfAt.keep0 {w w' : World} {B p : Nat} {s : SS} (h : RfAt w B p s) (k : Keeps [] w w') : RfAt w' B p s := h.keepS k (by simp) (by simp)
theorem RfAt.lt {w : World} {B p : Nat} {s : SS} (h : RfAt w B p s) : p < w.heap.size := by
  obtain ⟨h0, h1, _⟩ := h; omega
theorem RfAt.weak {w : World} {B B' p : Nat} {s : SS} (h : RfAt w B p s) (hB : B' ≤ B) (hp : p < B') : RfAt w B' p s := by
  obtain ⟨h0, h1, v, h2, h3⟩ := h
  exact ⟨hp, by omega, v, h2, h3.weak hB⟩
theorem RfAt.start {w : World} {p : Nat} {s : SS} (h : RfB w p (.slice none 0 0) s) (hs : s.b = []) {B : Nat} (h1 : p < B) (h2 : B ≤ w.heap.size) : RfAt w B p s :=
  ⟨h1, h2, _, h, by rw [hs]; exact World.ownsRow_nil _ _ _ _⟩
theorem RfB.set2 {w : World} {p : Nat} {v : Value} {s : SS} (h : RfB w p v s) : RfB (w.setCell ⟨p, 2, none⟩ (.bool true)) p v { s with closed := true } := heap_setCell_self h 2 _
theorem RfB.set3 {w : World} {p : Nat} {v : Value} {s : SS} (h : RfB w p v s) (t : Int) : RfB (w.setCell ⟨p, 3, none⟩ (.int .i64 t)) p v { s with told := t } := heap_setCell_self h 3 _
theorem RfB.set4 {w : World} {p : Nat} {v : Value} {s : SS} (h : RfB w p v s) (nm : ByteArray) : RfB (w.setCell ⟨p, 4, none⟩ (.string nm)) p v { s with name := nm } := heap_setCell_self h 4 _
theorem RfB.low {w : World} {p : Nat} {v : Value} {s : SS} (h : RfB w p v s) : w.cell? ⟨p, 0, none⟩ = some v ∧ w.cell? ⟨p, 1, none⟩ = some (.int .i64 (s.most : Int)) ∧ w.cell? ⟨p, 2, none⟩ = some (.bool s.closed) := ⟨cell_of_block h 0, cell_of_block h 1, cell_of_block h 2⟩
set_option maxRecDepth 100000 in
theorem rnew_bad (w : World) (n : Int) (hbad : n < 1 ∨ 16384 < n) : Calls Tryz.prog 22 #[.int .i64 n] w fun e w' => e = .returned (.tuple #[.pointer none, .int .i64 1]) ∧ w' = w := by
  by_cases h1 : n < 1
  · clear hbad
    go_enter Tryz.func22, Tryz.ntmps22
    go_wp2_with fail
    go_ret2
    exact ⟨rfl, rfl⟩
  · have h2 : (16384 : Int) < n := by omega
    clear hbad
    go_enter Tryz.func22, Tryz.ntmps22
    go_wp2_with fail
    go_ret2
    exact ⟨rfl, rfl⟩
set_option maxRecDepth 100000 in
theorem rnew_ok (w : World) (n : Nat) (h1 : 1 ≤ n) (h2 : n ≤ 16384) : Calls Tryz.prog 22 #[.int .i64 n] w fun e w' => ∃ p, e = .returned (.tuple #[.pointer (some ⟨p, 0, none⟩), .int .i64 0]) ∧ RfB w' p (.slice none 0 0) ⟨[], n, false, 0, ByteArray.empty⟩ ∧ w.heap.size ≤ p ∧ Keeps [] w w' := by
  have g1 : ¬ (n : Int) < 1 := by omega
  have g2 : ¬ (16384 : Int) < (n : Int) := by omega
  go_enter Tryz.func22, Tryz.ntmps22
  go_wp2_with fail
  go_ret2
  exact ⟨w.heap.size, rfl, (MapKept.heap_alloc w _).1, Nat.le_refl _, Keeps.alloc [] w _⟩
set_option maxRecDepth 100000 in
set_option maxHeartbeats 4000000 in
theorem rlk_any (w : World) (B p : Nat) (s : SS) (hs : RfAt w B p s) (ok : SOk s) :
    Calls Tryz.prog 52 #[.pointer (some ⟨p, 0, none⟩)] w fun e w' => e = .returned (.tuple #[]) ∧ RfAt w' B p (tellS s) ∧ Keeps [p] w w' := by
  have HS := Lib.hid hs
  obtain ⟨hp, hBs, v, hb2, ho2⟩ := hs
  obtain ⟨b, most, closed, told, name⟩ := s
  have h4 := ok.most
  have h5 := ok.room
  dsimp only at h4 h5
  have HP := Lib.hid (And.intro hp hBs)
  have x3 : w.cell? ⟨p, 3, none⟩ = some (.int .i64 told) := cell_of_block hb2 3
  by_cases ht : told = 0
  · have htb : (told == 0) = true := by simp [ht]
    rw [show tellS ⟨b, most, closed, told, name⟩ = ⟨b, most, closed, (lookS b most closed).1, (lookS b most closed).2⟩ by unfold tellS; rw [if_pos ht]]
    subst ht
    obtain ⟨A2, c2, rfl⟩ := ho2.form
    obtain ⟨⟨t, nm⟩, hres⟩ : ∃ r, lookS b most closed = r := ⟨_, rfl⟩
    have HLL := Lib.hid (rslook_any w.drew A2 b.length c2 b (ho2.bytes.keep0 (Keeps.refl [] _).drew') (by omega) most closed)
    rw [hres] at HLL ⊢
    have H2 := Lib.hid hb2
    have O2 := Lib.hid ho2
    have HZ := Lib.hid (show w.drew.cell? ⟨p, 0, none⟩ = some (.slice A2 b.length c2) ∧ w.drew.cell? ⟨p, 1, none⟩ = some (.int .i64 (most : Int)) ∧ w.drew.cell? ⟨p, 2, none⟩ = some (.bool closed) from ⟨cell_of_block hb2 0, cell_of_block hb2 1, cell_of_block hb2 2⟩)
    dsimp only
    clear hb2 ho2 hp hBs h4 h5 ok hres
    go_enter Tryz.func52, Tryz.ntmps52
    go_wp2_with fail
    go_region_held3 (fun W => W.cell? ⟨p, 0, none⟩ = some (.slice A2 b.length c2) ∧ W.cell? ⟨p, 1, none⟩ = some (.int .i64 (most : Int)) ∧ W.cell? ⟨p, 2, none⟩ = some (.bool closed))
      (first | exact HZ.out | exact HB3.out.low)
      (first | (go_at_call 10; refine HLL.out.mono ?_; rintro e w3 ⟨rfl, k3⟩; have hb3 : RfB w3 p (.slice A2 b.length c2) ⟨b, most, closed, 0, name⟩ := (k3.block p (lt_of_block H2.out) (by simp)).trans H2.out; have HB3 := Lib.hid hb3; have HK3 := Lib.hid k3; clear hb3 k3))
    have z3 : w3.cell? ⟨p, 3, none⟩ = some (.int .i64 0) := cell_of_block HB3.out 3
    have f3 : w3.frozen? ⟨p, 3, none⟩ = false := free_of_block HB3.out 3
    have HB4 := Lib.hid (HB3.out.set3 t)
    have z4 : (w3.setCell ⟨p, 3, none⟩ (.int .i64 t)).cell? ⟨p, 4, none⟩ = some (.string name) := cell_of_block HB4.out 4
    have f4 : (w3.setCell ⟨p, 3, none⟩ (.int .i64 t)).frozen? ⟨p, 4, none⟩ = false := free_of_block HB4.out 4
    have HB5 := Lib.hid (HB4.out.set4 nm)
    clear x3
    go_wp2_with fail
    have HC := Lib.hid (show RfAt ((w3.setCell ⟨p, 3, none⟩ (.int .i64 t)).setCell ⟨p, 4, none⟩ (.string nm)) B p ⟨b, most, closed, t, nm⟩ ∧ Keeps [p] w ((w3.setCell ⟨p, 3, none⟩ (.int .i64 t)).setCell ⟨p, 4, none⟩ (.string nm)) from by
      have kk : Keeps [] w w3 := (Keeps.refl [] w).drew'.trans HK3.out
      have ks := (Keeps.setCell w3 ⟨p, 3, none⟩ (.int .i64 t)).trans (Keeps.setCell (w3.setCell ⟨p, 3, none⟩ (.int .i64 t)) ⟨p, 4, none⟩ (.string nm))
      exact ⟨⟨HP.out.1, Nat.le_trans HP.out.2 (Nat.le_trans kk.size ks.size), _, HB5.out, own_setCell (own_setCell (own_keep0 O2.out kk) _ _ HP.out.1) _ _ HP.out.1⟩, (kk.mono (by simp)).trans ks⟩)
    go_end0
    exact ⟨rfl, HC.out⟩
  · have htb : (told == 0) = false := by simp [ht]
    rw [show tellS ⟨b, most, closed, told, name⟩ = ⟨b, most, closed, told, name⟩ by unfold tellS; rw [if_neg ht]]
    clear hb2 ho2 ok h4 h5 hp hBs
    go_enter Tryz.func52, Tryz.ntmps52
    go_wp2_with fail
    go_end0
    exact ⟨rfl, HS.out, Keeps.refl _ _⟩
theorem RfB.set0 {w : World} {p : Nat} {v v' : Value} {s : SS} (h : RfB w p v s) (b : List UInt8) : RfB (w.setCell ⟨p, 0, none⟩ v') p v' { s with b := b } := heap_setCell_self h 0 _
set_option maxRecDepth 100000 in
set_option maxHeartbeats 4000000 in
theorem rown_any (w : World) (v : Value) (l : List UInt8) (h : BytesV w v l) (hl : l.length ≤ 100000) : Calls Tryz.prog 53 #[v] w fun e w' => ∃ v', e = .returned v' ∧ OwnB w' w.heap.size v' l ∧ Keeps [] w w' := by
  have H := Lib.hid h
  clear h
  go_enter Tryz.func53, Tryz.ntmps53
  go_wp2_with (at_builtin; refine app_W rfl _ _ w (Keeps.refl [] w) rfl _ ([]) rfl (World.ownsRow_nil _ _ _ _) _ l rfl H.out (by simp; omega) ?_; intro v1 w1 ho1 hk1)
  go_ret
  exact ⟨_, rfl, ho1, hk1⟩
set_option maxRecDepth 100000 in
theorem bequal_any (w : World) (A1 A2 : Option Addr) (n1 n2 c1 c2 : Nat) (l : List UInt8) (h1 : BytesV w (.slice A1 n1 c1) l) (h2 : BytesV w (.slice A2 n2 c2) l) : Calls Tryz.prog 25 #[.slice A1 n1 c1, .slice A2 n2 c2] w fun e w' => e = .returned (.bool true) ∧ w' = w := by
  have e1 := h1.str0 (P := Tryz.prog) 22 9 5 Tryz.underlying22 Tryz.underlying5 Tryz.underlying9
  have e2 := h2.str0 (P := Tryz.prog) 22 9 5 Tryz.underlying22 Tryz.underlying5 Tryz.underlying9
  obtain ⟨L, hL⟩ : ∃ L : ByteArray, (⟨l.toArray⟩ : ByteArray) = L := ⟨_, rfl⟩
  rw [hL] at e1 e2
  clear h1 h2
  go_enter Tryz.func25, Tryz.ntmps25
  go_wp2_with fail
  go_ret
  exact ⟨rfl, rfl⟩
set_option maxRecDepth 100000 in
set_option maxHeartbeats 4000000 in
theorem rclose_any (w : World) (B p : Nat) (s : SS) (hs : RfAt w B p s) (ok : SOk s) :
    Calls Tryz.prog 23 #[.pointer (some ⟨p, 0, none⟩)] w fun e w' => e = .returned (.tuple #[.int .i64 (tellS { s with closed := true }).told, .string (tellS { s with closed := true }).name, .int .i64 0]) ∧ RfAt w' B p (tellS { s with closed := true }) ∧ Keeps [p] w w' := by
  obtain ⟨hp, hBs, v, hb2, ho2⟩ := hs
  have x2 : w.cell? ⟨p, 2, none⟩ = some (.bool s.closed) := cell_of_block hb2 2
  have z2 : w.frozen? ⟨p, 2, none⟩ = false := free_of_block hb2 2
  obtain ⟨cl, hcl⟩ : ∃ cl, s.closed = cl := ⟨_, rfl⟩
  rw [hcl] at x2
  clear hcl
  have hk : Keeps [p] w (w.setCell ⟨p, 2, none⟩ (.bool true)) := Keeps.setCell w ⟨p, 2, none⟩ (.bool true)
  have HL := Lib.hid (rlk_any (w.setCell ⟨p, 2, none⟩ (.bool true)) B p { s with closed := true } ⟨hp, Nat.le_trans hBs hk.size, v, hb2.set2, own_setCell ho2 _ _ hp⟩ (SOk.close ok))
  have HK := Lib.hid hk
  obtain ⟨s', hs'⟩ : ∃ s', tellS { s with closed := true } = s' := ⟨_, rfl⟩
  rw [hs'] at HL ⊢
  obtain ⟨t, hT⟩ : ∃ t, s'.told = t := ⟨_, rfl⟩
  obtain ⟨nm, hN⟩ : ∃ nm, s'.name = nm := ⟨_, rfl⟩
  rw [hT, hN]
  have HT := Lib.hid (And.intro hT hN)
  clear hT hN
  clear hp hBs hb2 ho2 hk ok hs'
  go_enter Tryz.func23, Tryz.ntmps23
  go_wp2_with fail
  refine HL.out.mono ?_
  rintro e w2 ⟨rfl, hr, k2⟩
  have HR := Lib.hid hr
  have K2 := Lib.hid (HK.out.trans k2)
  obtain ⟨_, _, v2, hb3, ho3⟩ := hr
  have HY := Lib.hid (show w2.drew.cell? ⟨p, 3, none⟩ = some (.int .i64 t) ∧ w2.drew.cell? ⟨p, 4, none⟩ = some (.string nm) from ⟨by rw [← HT.out.1]; exact cell_of_block hb3 3, by rw [← HT.out.2]; exact cell_of_block hb3 4⟩)
  clear hb3 ho3 k2 HL HK x2 z2
  go_wp2_with fail
  go_region_held3 (fun W => W.cell? ⟨p, 3, none⟩ = some (.int .i64 t) ∧ W.cell? ⟨p, 4, none⟩ = some (.string nm))
    (exact HY.out)
    (fail)
  go_wp2_with fail
  go_ret3
  exact ⟨rfl, HR.out.keep0 (Keeps.refl [] _).drew', K2.out.drew'⟩
set_option maxRecDepth 100000 in
set_option maxHeartbeats 8000000 in
theorem rtake_any (w : World) (B p : Nat) (s : SS) (hs : RfAt w B p s) (ok : SOk s) (A : Option Addr) (n c : Nat) (b : List UInt8) (hb : BytesV w (.slice A n c) b) (hn : n ≤ 10000) :
    Calls Tryz.prog 24 #[.pointer (some ⟨p, 0, none⟩), .slice A n c] w fun e w' => e = .returned (ansV (ansS (takeS s b)).1) ∧ ((takeS s b).1 ≠ 0 → Keeps [] w w') ∧ ((takeS s b).1 = 0 → RfAt w' w.heap.size p (tellS (takeS s b).2) ∧ Keeps [p] w w') := by
  obtain ⟨hp, hBs, v, hb2, ho2⟩ := hs
  obtain ⟨hl, _, _⟩ := hb.form
  subst hl
  obtain ⟨sb, most, closed, told, name⟩ := s
  have h4 := ok.most
  have h5 := ok.room
  dsimp only at h4 h5
  have x2 : w.cell? ⟨p, 2, none⟩ = some (.bool closed) := cell_of_block hb2 2
  unfold takeS
  dsimp only
  cases closed with
  | true =>
    rw [if_pos rfl]
    clear hb2 ho2 hb hp hBs ok h4 h5
    dsimp only [ansV, ansS]
    rw [if_pos (by simp)]
    go_enter Tryz.func24, Tryz.ntmps24
    go_wp2_with fail
    go_ret3
    exact ⟨rfl, fun _ => Keeps.refl _ _, fun h => absurd h (by simp)⟩
  | false =>
    rw [if_neg (by simp)]
    obtain ⟨A2, c2, rfl⟩ := ho2.form
    have HZ := Lib.hid (show w.drew.cell? ⟨p, 0, none⟩ = some (.slice A2 sb.length c2) ∧ w.drew.cell? ⟨p, 1, none⟩ = some (.int .i64 (most : Int)) from ⟨cell_of_block hb2 0, cell_of_block hb2 1⟩)
    by_cases hm : most - sb.length < b.length
    · rw [if_pos hm]
      have hmI : (most : Int) < (sb.length : Int) + (b.length : Int) := by omega
      have hwr : IntKind.i64.wrap ((sb.length : Int) + (b.length : Int)) = (sb.length : Int) + (b.length : Int) := by rw [wrap_in] <;> omega
      clear hb2 ho2 hb hp hBs ok hm
      dsimp only [ansV, ansS]
      rw [if_pos (by simp)]
      go_enter Tryz.func24, Tryz.ntmps24
      go_wp2_with fail
      go_region_held3 (fun W => W.cell? ⟨p, 0, none⟩ = some (.slice A2 sb.length c2) ∧ W.cell? ⟨p, 1, none⟩ = some (.int .i64 (most : Int)))
        (exact HZ.out)
        (fail)
      go_wp2_with fail
      go_ret3
      exact ⟨rfl, fun _ => (Keeps.refl [] _).drew', fun h => absurd h (by simp)⟩
    · rw [if_neg hm]
      have hmI : ¬ (most : Int) < (sb.length : Int) + (b.length : Int) := by omega
      have hwr : IntKind.i64.wrap ((sb.length : Int) + (b.length : Int)) = (sb.length : Int) + (b.length : Int) := by rw [wrap_in] <;> omega
      have x0 : w.drew.cell? ⟨p, 0, none⟩ = some (.slice A2 sb.length c2) := cell_of_block hb2 0
      have HO := Lib.hid (rown_any w.drew (.slice A2 sb.length c2) sb (ho2.bytes.keep0 (Keeps.refl [] _).drew') (by omega))
      have HB := Lib.hid hb
      have H2 := Lib.hid hb2
      have HP := Lib.hid (show p < w.heap.size by omega)
      have HLE := Lib.hid (show sb.length ≤ 16384 ∧ b.length ≤ 10000 ∧ sb.length + b.length ≤ most ∧ most ≤ 16384 by omega)
      have hok : SOk { b := sb ++ b, most := most, closed := false, told := told, name := name } := ⟨ok.one, ok.most, by simp only [List.length_append]; omega⟩
      have HOK := Lib.hid hok
      obtain ⟨s', hs'⟩ : ∃ s', tellS { b := sb ++ b, most := most, closed := false, told := told, name := name } = s' := ⟨_, rfl⟩
      have HS' := Lib.hid hs'
      rw [show ansS ((0 : Int), ({ b := sb ++ b, most := most, closed := false, told := told, name := name } : SS)) = ((s'.told, s'.name, 0), s') by rw [← hs']; unfold ansS; rw [if_neg (by simp)]]
      dsimp only [ansV]
      obtain ⟨t, hT⟩ : ∃ t, s'.told = t := ⟨_, rfl⟩
      obtain ⟨nm, hN⟩ : ∃ nm, s'.name = nm := ⟨_, rfl⟩
      rw [hs', hT, hN]
      have HT := Lib.hid (And.intro hT hN)
      clear hb2 ho2 hb hp hBs ok hm hok hs' h4 h5 hT hN
      go_enter Tryz.func24, Tryz.ntmps24
      go_wp2_with fail
      go_region_held3 (fun W => W.cell? ⟨p, 0, none⟩ = some (.slice A2 sb.length c2) ∧ W.cell? ⟨p, 1, none⟩ = some (.int .i64 (most : Int)))
        (exact HZ.out)
        (fail)
      go_wp2_with fail
      refine HO.out.mono ?_
      rintro e w1 ⟨v1, rfl, ho1, k1⟩
      have HO1 := Lib.hid ho1
      have HK1 := Lib.hid ((Keeps.refl [] w).drew'.trans k1)
      have hx0 : w1.cell? ⟨p, 0, none⟩ = some (.slice A2 sb.length c2) := cell_keeps k1 x0 (by simp)
      clear ho1 k1 HO x0
      go_wp2_with (at_builtin; apply stop_here)
      unfold Stop
      refine app_W rfl _ _ w HK1.out rfl v1 sb rfl HO1.out _ b rfl (HB.out.keep0 HK1.out) (by have := HLE.out; omega) ?_
      intro v2 w2 ho2 hk2
      obtain ⟨A5, c5, hv5⟩ := ho2.form
      have HO2 := Lib.hid ho2
      have HK2 := Lib.hid hk2
      have hb3 : RfB w2 p (.slice A2 sb.length c2) ⟨sb, most, false, told, name⟩ := (hk2.block p HP.out (by simp)).trans H2.out
      have HB3 := Lib.hid hb3
      have y0 : w2.cell? ⟨p, 0, none⟩ = some (.slice A2 sb.length c2) := cell_of_block hb3 0
      have z0 : w2.frozen? ⟨p, 0, none⟩ = false := free_of_block hb3 0
      obtain ⟨n5, hn5⟩ : ∃ n5, (sb ++ b).length = n5 := ⟨_, rfl⟩
      rw [hn5] at hv5
      clear ho2 hk2 hb3 hx0 hn5
      subst hv5
      go_wp2_with fail
      have hk3 : Keeps [p] w2 (w2.setCell ⟨p, 0, none⟩ (.slice A5 n5 c5)) := Keeps.setCell w2 ⟨p, 0, none⟩ (.slice A5 n5 c5)
      have HL := Lib.hid (rlk_any (w2.setCell ⟨p, 0, none⟩ (.slice A5 n5 c5)) w.heap.size p ⟨sb ++ b, most, false, told, name⟩ ⟨HP.out, Nat.le_trans HK2.out.size hk3.size, .slice A5 n5 c5, HB3.out.set0 (sb ++ b), own_setCell HO2.out _ _ HP.out⟩ HOK.out)
      rw [HS'.out] at HL
      have HK3 := Lib.hid ((HK2.out.mono (T := [p]) (by simp)).trans hk3)
      clear hk3 y0 z0
      refine HL.out.mono ?_
      rintro e w4 ⟨rfl, hr, k4⟩
      have HR := Lib.hid hr
      have K4 := Lib.hid (HK3.out.trans k4)
      obtain ⟨_, _, v4, hb4, ho4⟩ := hr
      have HY := Lib.hid (show w4.drew.cell? ⟨p, 3, none⟩ = some (.int .i64 t) ∧ w4.drew.cell? ⟨p, 4, none⟩ = some (.string nm) from ⟨by rw [← HT.out.1]; exact cell_of_block hb4 3, by rw [← HT.out.2]; exact cell_of_block hb4 4⟩)
      clear hb4 ho4 k4 HL
      go_wp2_with fail
      go_region_held3 (fun W => W.cell? ⟨p, 3, none⟩ = some (.int .i64 t) ∧ W.cell? ⟨p, 4, none⟩ = some (.string nm))
        (exact HY.out)
        (fail)
      go_wp2_with fail
      go_ret3
      exact ⟨rfl, fun h => absurd rfl h, fun _ => ⟨HR.out.keep0 (Keeps.refl [] _).drew', K4.out.drew'⟩⟩
end Go.Proofs.YtpoheemjdieogaaGreatDoor

namespace Go.Proofs.YtpoheemjdieogaaGreatDoor
open Go.RowKit Go.ChangeShapes Go.WideShapes Go.ChangeAt Go.Joins Go.Lib
set_option linter.unusedVariables false
set_option linter.unusedSimpArgs false

/-- a row of rows of bytes -/
def RowsV (w : World) (A : Option Addr) (n c : Nat) (l : List (Value × List UInt8)) : Prop :=
  l.length = n ∧ n ≤ c ∧ (0 < n → ∃ g o, A = some ⟨g, o, none⟩ ∧ ∀ i x, l[i]? = some x → w.cell? ⟨g, o + i, none⟩ = some x.1 ∧ BytesV w x.1 x.2)
theorem RowsV.keep0 {w w' : World} {A : Option Addr} {n c : Nat} {l : List (Value × List UInt8)} (h : RowsV w A n c l) (k : Keeps [] w w') : RowsV w' A n c l := by
  refine ⟨h.1, h.2.1, fun hp => ?_⟩
  obtain ⟨g, o, e, hc⟩ := h.2.2 hp
  exact ⟨g, o, e, fun i x hx => ⟨cell_keeps k (hc i x hx).1 (by simp), (hc i x hx).2.keep0 k⟩⟩
theorem RowsV.at {w : World} {A : Option Addr} {n c : Nat} {l : List (Value × List UInt8)} (h : RowsV w A n c l) {i : Nat} (hi : i < n) : ∃ g o v b, A = some ⟨g, o, none⟩ ∧ w.cell? ⟨g, o + i, none⟩ = some v ∧ BytesV w v b := by
  obtain ⟨g, o, e, hc⟩ := h.2.2 (by omega)
  have hx : l[i]? = some (l[i]'(by rw [h.1]; exact hi)) := List.getElem?_eq_getElem (by rw [h.1]; exact hi)
  exact ⟨g, o, _, _, e, (hc i _ hx).1, (hc i _ hx).2⟩
set_option maxRecDepth 100000 in
theorem open_rows {H : Type} {enc : TypeId × Value → H} {W : World} {v : Value} {d : DataW H} {p : List MemPlace} {b0 : Nat} (o : Value.okWide Tryz.prog W .any b0 48 v) (h : DataW.Trod enc Tryz.prog W 0 (fun _ => true) true 48 v d p) :
    ∃ A n k l, v = .slice A n k ∧ RowsV W A n k l := by
  obtain ⟨a0, len, cap, rfl⟩ := okWide_slice Tryz.underlying48 o
  obtain ⟨fuel, hf⟩ := h
  rcases DataW.trod_slice Tryz.underlying48 hf with ⟨hcs, _⟩ | ⟨a, len', cap', elems, rest, n, _, hcs, _, hb, hl, hm, hlen, hel, _, _⟩
  · simp [Value.cells] at hcs
    obtain ⟨rfl, rfl, rfl⟩ := hcs
    exact ⟨none, 0, 0, [], rfl, ⟨rfl, by omega, fun h => by omega⟩⟩
  · simp [Value.cells] at hcs
    obtain ⟨rfl, rfl, rfl⟩ := hcs
    rw [Tryz.cc1] at hel
    have key : ∀ i, i < len → ∃ x : Value × List UInt8, W.cell? (a.add (i * 1)) = some x.1 ∧ BytesV W x.1 x.2 := by
      intro i hi
      have he := hel i hi
      rw [List.getElem?_eq_getElem (by omega)] at he
      obtain ⟨cs, hc, ht⟩ := Option.bind_eq_some_iff.1 he
      obtain ⟨_, hcl, hcc⟩ := World.cells?_some hc
      match cs, hcl with
      | [c0], _ =>
        obtain ⟨A, n, k, l, rfl, hb⟩ := bytes_in ht
        have g0 := hcc 0 (by omega)
        exact ⟨(.slice A n k, l), by simpa [Addr.add] using g0, hb⟩
    have hch : ∃ f : Nat → Value × List UInt8, ∀ i, i < len → W.cell? (a.add (i * 1)) = some (f i).1 ∧ BytesV W (f i).1 (f i).2 := by
      refine ⟨fun i => if hi : i < len then (key i hi).choose else (.slice none 0 0, []), fun i hi => ?_⟩
      simp only [hi, dif_pos]
      exact (key i hi).choose_spec
    obtain ⟨f, hf⟩ := hch
    refine ⟨some a, len, cap, (List.range len).map f, rfl, ⟨by simp, hl, fun hp => ?_⟩⟩
    have hsp : a.spot = none := spot_none (i := 0) (by have g := (hf 0 hp).1; rwa [Nat.zero_mul] at g) rfl
    obtain ⟨blk, off, sp⟩ := a
    simp only at hsp
    subst hsp
    refine ⟨blk, off, rfl, fun i x hx => ?_⟩
    have hi : i < len := by have := (List.getElem?_eq_some_iff.1 hx).1; simpa using this
    rw [List.getElem?_map, List.getElem?_range hi] at hx
    simp only [Option.map_some, Option.some.injEq] at hx
    subst hx
    have h2 := hf i hi
    rw [show (⟨blk, off, none⟩ : Addr).add (i * 1) = ⟨blk, off + i, none⟩ by unfold Addr.add; split <;> simp_all] at h2
    exact h2
set_option maxRecDepth 100000 in
theorem open_u8 {H : Type} {enc : TypeId × Value → H} {W : World} {v : Value} {d : DataW H} {p : List MemPlace} {b0 : Nat} (o : Value.okWide Tryz.prog W .any b0 5 v) (h : DataW.Trod enc Tryz.prog W 0 (fun _ => true) true 5 v d p) :
    ∃ n : Nat, v = .int .u8 n ∧ n < 256 := by
  obtain ⟨z, rfl⟩ := okWide_int Tryz.underlying5 o
  obtain ⟨fuel, hf⟩ := h
  obtain ⟨n, q0, _, hw⟩ := DataW.trod_int Tryz.underlying5 hf
  simp [Value.cells] at q0
  subst q0
  have hb := bounds_u8 hw
  exact ⟨z.toNat, by rw [Int.toNat_of_nonneg hb.1], by omega⟩

/-! what is changed elsewhere -/
theorem SnAt.chg {w w' : World} {B p : Nat} {s : SS} {S : List Nat} (h : SnAt w B p s) (k : Keeps S w w') (hS : ∀ y ∈ S, y ≠ p ∧ (y < B ∨ w.heap.size ≤ y)) : SnAt w' B p s := by
  refine h.keepS (S := S.filter (fun y => decide (y < B))) (k.fresh fun x hx hl => ?_) (fun hm => ?_) fun x hx => ?_
  · have := hS x hx
    exact List.mem_filter.2 ⟨hx, by simp; omega⟩
  · exact (hS p (List.mem_filter.1 hm).1).1 rfl
  · simpa using (List.mem_filter.1 hx).2
theorem RfAt.chg {w w' : World} {B p : Nat} {s : SS} {S : List Nat} (h : RfAt w B p s) (k : Keeps S w w') (hS : ∀ y ∈ S, y ≠ p ∧ (y < B ∨ w.heap.size ≤ y)) : RfAt w' B p s := by
  refine h.keepS (S := S.filter (fun y => decide (y < B))) (k.fresh fun x hx hl => ?_) (fun hm => ?_) fun x hx => ?_
  · have := hS x hx
    exact List.mem_filter.2 ⟨hx, by simp; omega⟩
  · exact (hS p (List.mem_filter.1 hm).1).1 rfl
  · simpa using (List.mem_filter.1 hx).2
/-- the state behind a call of Take -/
def nextS (s : SS) (b : List UInt8) : SS := if (takeS s b).1 = 0 then tellS (takeS s b).2 else s
theorem SOk.next {s : SS} (h : SOk s) (b : List UInt8) : SOk (nextS s b) := by
  unfold nextS
  split
  · exact (h.take b).tell
  · exact h
theorem stake_round (w0 w : World) (B p : Nat) (s : SS) (hw : ∀ x, Keeps [p] w x → LW x) (hs : SnAt w0 B p s) (k0 : Keeps [] w0 w) (ok : SOk s) (A : Option Addr) (n c : Nat) (b : List UInt8) (hb : BytesV w (.slice A n c) b) (hm : n ≤ 9223372036854775807) :
    Calls Tryz.prog 13 #[.pointer (some ⟨p, 0, none⟩), .slice A n c] w fun e w' => e = .returned (ansV (ansS (takeS s b)).1) ∧ Keeps [p] w w' ∧ ∀ S x, Keeps S w' x → (∀ y ∈ S, y ≠ p ∧ y < w.heap.size ∧ (y < B ∨ w0.heap.size ≤ y)) → SnAt x B p (nextS s b) := by
  refine (stake_any w B p s hw (hs.keep0 k0) ok A n c b hb hm).mono ?_
  rintro e w' ⟨rfl, h1, h2⟩
  unfold nextS
  by_cases h : (takeS s b).1 = 0
  · obtain ⟨h3, h4⟩ := h2 h
    rw [if_pos h]
    exact ⟨rfl, h4, fun S x k hS => (h3.keepS k (fun hm => (hS p hm).1 rfl) fun y hy => (hS y hy).2.1).weak (Nat.le_trans hs.2.1 k0.size) hs.1⟩
  · rw [if_neg h]
    exact ⟨rfl, (h1 h).mono (by simp), fun S x k hS => hs.chg ((k0.trans (h1 h)).mono (T := S) (by simp) |>.trans k) fun y hy => ⟨(hS y hy).1, (hS y hy).2.2⟩⟩
theorem rtake_round (w0 w : World) (B p : Nat) (s : SS) (S0 : List Nat) (hs : RfAt w0 B p s) (k0 : Keeps S0 w0 w) (hS0 : ∀ y ∈ S0, y ≠ p ∧ y < B) (ok : SOk s) (A : Option Addr) (n c : Nat) (b : List UInt8) (hb : BytesV w (.slice A n c) b) (hm : n ≤ 10000) :
    Calls Tryz.prog 24 #[.pointer (some ⟨p, 0, none⟩), .slice A n c] w fun e w' => e = .returned (ansV (ansS (takeS s b)).1) ∧ Keeps [p] w w' ∧ ∀ S x, Keeps S w' x → (∀ y ∈ S, y ≠ p ∧ y < w.heap.size ∧ (y < B ∨ w0.heap.size ≤ y)) → RfAt x B p (nextS s b) := by
  refine (rtake_any w B p s (hs.keepS k0 (fun hm => (hS0 p hm).1 rfl) fun y hy => (hS0 y hy).2) ok A n c b hb hm).mono ?_
  rintro e w' ⟨rfl, h1, h2⟩
  unfold nextS
  by_cases h : (takeS s b).1 = 0
  · obtain ⟨h3, h4⟩ := h2 h
    rw [if_pos h]
    exact ⟨rfl, h4, fun S x k hS => (h3.keepS k (fun hm => (hS p hm).1 rfl) fun y hy => (hS y hy).2.1).weak (Nat.le_trans hs.2.1 k0.size) hs.1⟩
  · rw [if_neg h]
    refine ⟨rfl, (h1 h).mono (by simp), fun S x k hS => ?_⟩
    have kk : Keeps (S0 ++ S) w0 x := ((k0.mono (T := S0 ++ S) (fun x hx => List.mem_append_left _ hx)).trans ((h1 h).mono (by simp))).trans (k.mono (fun x hx => List.mem_append_right _ hx))
    refine hs.chg kk fun y hy => ?_
    rcases List.mem_append.1 hy with hy | hy
    · exact ⟨(hS0 y hy).1, .inl (hS0 y hy).2⟩
    · exact ⟨(hS y hy).1, (hS y hy).2.2⟩

/-! bytes that are changed -/
/-- a row of numbers of one byte, in a block of J that no string shares -/
def CellsIn (w : World) (J : List Nat) (A : Option Addr) (n : Nat) : Prop := 0 < n → ∃ g o, A = some ⟨g, o, none⟩ ∧ g ∈ J ∧ (∃ cs t, w.heap[g]? = some (.cells cs t (0, 0))) ∧ ∀ k, k < n → ∃ z, w.cell? ⟨g, o + k, none⟩ = some (.int .u8 z)
theorem CellsIn.of_own {w : World} {B c : Nat} {A : Option Addr} {l : List UInt8} (h : OwnB w B (.slice A l.length c) l) : ∃ J : List Nat, (∀ y ∈ J, B ≤ y ∧ y < w.heap.size) ∧ CellsIn w J A l.length := by
  by_cases hl : 0 < l.length
  · rcases h.2 with ⟨h1, h2⟩ | ⟨g1, cap, cur, hv, hb, hg, _⟩
    · omega
    · obtain ⟨g, o, rfl, hc⟩ := h.bytes.get hl
      injection hv with e1 e2 e3
      injection e1 with e1
      injection e1 with e1 e2 e3
      subst e1
      refine ⟨[g], fun y hy => ?_, fun _ => ⟨g, o, rfl, by simp, ⟨cur, _, hg⟩, fun k hk => ?_⟩⟩
      · rw [List.mem_singleton.1 hy]
        exact World.ownsRow.lt h g rfl
      · exact ⟨_, hc k _ (List.getElem?_eq_getElem hk)⟩
  · exact ⟨[], by simp, fun h => absurd h hl⟩
theorem CellsIn.keeps {w w' : World} {J S : List Nat} {A : Option Addr} {n : Nat} (h : CellsIn w J A n) (k : Keeps S w w') (hS : ∀ y ∈ J, y ∉ S) : CellsIn w' J A n := fun hp => by
  obtain ⟨g, o, e, hg, ⟨cs, t, hb⟩, hc⟩ := h hp
  refine ⟨g, o, e, hg, ⟨cs, t, (k.block g (lt_of_block hb) (hS g hg)).trans hb⟩, fun i hi => ?_⟩
  obtain ⟨z, hz⟩ := hc i hi
  exact ⟨z, cell_keeps k hz (hS g hg)⟩
theorem CellsIn.set {w : World} {J : List Nat} {g o : Nat} {n : Nat} (h : CellsIn w J (some ⟨g, o, none⟩) n) (i : Nat) (z : Int) : CellsIn (w.setCell ⟨g, i, none⟩ (.int .u8 z)) J (some ⟨g, o, none⟩) n := fun hp => by
  obtain ⟨g1, o1, e, hg, ⟨cs, t, hb⟩, hc⟩ := h hp
  injection e with e
  injection e with e1 e2
  subst e1 e2
  exact ⟨g, o, rfl, hg, ⟨_, t, heap_setCell_self hb i _⟩, fun i hi => someInt_setCell (hc i hi) _ _⟩
theorem CellsIn.at {w : World} {J : List Nat} {A : Option Addr} {n : Nat} (h : CellsIn w J A n) {j : Nat} (hj : j < n) : ∃ g o z, A = some ⟨g, o, none⟩ ∧ g ∈ J ∧ w.cell? ⟨g, o + j, none⟩ = some (.int .u8 z) ∧ w.frozen? ⟨g, o + j, none⟩ = false := by
  obtain ⟨g, o, e, hg, ⟨cs, t, hb⟩, hc⟩ := h (by omega)
  obtain ⟨z, hz⟩ := hc j hj
  exact ⟨g, o, z, e, hg, hz, free_of_block hb _⟩
end Go.Proofs.YtpoheemjdieogaaGreatDoor

