/-
  The walks of a sniffer's anew, Take and Close. Condition: the library's variables lie as listed; the sniffer lies in memory as SnAt says.
-/
import Derived.Test.YtpoheemjdieogaaGreatDoorSnX
import Derived.Test.YtpoheemjdieogaaGreatDoorTlsT
import Derived.OwnWalk
namespace Go.Proofs.YtpoheemjdieogaaGreatDoor
open Go.RowKit Go.Lib
set_option linter.unusedVariables false
set_option linter.unusedSimpArgs false

theorem SnAt.weak {w : World} {B B' p : Nat} {s : SS} (h : SnAt w B p s) (hB : B' ≤ B) (hp : p < B') : SnAt w B' p s := by
  obtain ⟨h0, h1, v, h2, h3⟩ := h
  exact ⟨hp, by omega, v, h2, h3.weak hB⟩
theorem SnB.set3 {w : World} {p : Nat} {v : Value} {s : SS} (h : SnB w p v s) (t : Int) : SnB (w.setCell ⟨p, 3, none⟩ (.int .i64 t)) p v { s with told := t } := heap_setCell_self h 3 _
theorem SnB.set4 {w : World} {p : Nat} {v : Value} {s : SS} (h : SnB w p v s) (nm : ByteArray) : SnB (w.setCell ⟨p, 4, none⟩ (.string nm)) p v { s with name := nm } := heap_setCell_self h 4 _
theorem SnB.low {w : World} {p : Nat} {v : Value} {s : SS} (h : SnB w p v s) : w.cell? ⟨p, 0, none⟩ = some v ∧ w.cell? ⟨p, 1, none⟩ = some (.int .i64 (s.most : Int)) ∧ w.cell? ⟨p, 2, none⟩ = some (.bool s.closed) := ⟨cell_of_block h 0, cell_of_block h 1, cell_of_block h 2⟩
def ansV (x : Int × ByteArray × Int) : Value := .tuple #[.int .i64 x.1, .string x.2.1, .int .i64 x.2.2]
set_option maxHeartbeats 2000000 in
theorem anew_any (w : World) (B p : Nat) (s s' : SS) (hw : ∀ x, Keeps [p] w x → LW x) (hs : SnAt w B p s) (ok : SOk s) (ok' : SOk s') (k : Int) (F : Nat) (C : Array Value) (B' : Nat) (hB' : B' ≤ w.heap.size)
    (hF : ∀ args w, (callFunc F args).run Tryz.prog w = .ok (.enter F args) w)
    (hdo : Calls Tryz.prog F C w fun e w' => e = .returned (.int .i64 k) ∧ (k ≠ 0 → Keeps [] w w') ∧ (k = 0 → SnAt w' B' p s' ∧ Keeps [p] w w')) :
    Calls Tryz.prog 29 #[.pointer (some ⟨p, 0, none⟩), .func (.func F) #[] C] w fun e w' => e = .returned (ansV (ansS (k, s')).1) ∧ (k ≠ 0 → Keeps [] w w') ∧ (k = 0 → SnAt w' B' p (tellS s') ∧ Keeps [p] w w') := by
  obtain ⟨hp, hBs, v, h2, h3⟩ := hs
  have HN := Lib.hid (snone_any w p _ s h2 ok.one)
  have HDO := Lib.hid hdo
  have HW := Lib.hid hw
  have HPW := Lib.hid (show p < w.heap.size by omega)
  clear h2 h3 hdo hw hp hBs
  by_cases hk : k = 0
  · have hkb : (k != 0) = false := by simp [hk]
    rw [show ansS (k, s') = (((tellS s').told, (tellS s').name, 0), tellS s') by unfold ansS; rw [if_neg (by simp [hk])]]
    obtain ⟨b, most, closed, told, name⟩ := s'
    have h4 := ok'.most
    have h5 := ok'.room
    dsimp only at h4 h5
    have HOK := Lib.hid (And.intro h4 h5)
    clear h4 h5
    by_cases ht : told = 0
    · have htb : (told == 0) = true := by simp [ht]
      rw [show tellS ⟨b, most, closed, told, name⟩ = ⟨b, most, closed, (lookS b most closed).1, (lookS b most closed).2⟩ by unfold tellS; rw [if_pos ht]]
      subst ht
      obtain ⟨res, hres⟩ : ∃ r, lookS b most closed = r := ⟨_, rfl⟩
      obtain ⟨t, nm⟩ := res
      have HLK := Lib.hid (fun (w1 : World) (hw1 : LW w1) v (h : BytesV w1 v b) => Slook_B w1 hw1 v b h (by have := HOK.out; omega) most closed)
      rw [hres] at HLK ⊢
      clear hres ok ok'
      dsimp only [ansV]
      go_enter Tryz.func29, Tryz.ntmps29
      go_wp2_with fail
      refine HN.out.mono ?_
      rintro e w1 ⟨rfl, h1⟩
      obtain rfl := h1.symm
      clear HN h1
      go_wp2_with fail
      refine HDO.out.mono ?_
      rintro e w2 ⟨rfl, -, hz⟩
      obtain ⟨⟨hp, hBs, v2, hb2, ho2⟩, k2⟩ := hz hk
      obtain ⟨A2, c2, rfl⟩ := ho2.form
      have H2 := Lib.hid hb2
      have O2 := Lib.hid ho2
      have K2 := Lib.hid k2
      have HP := Lib.hid (And.intro hp hBs)
      have x3 : w2.cell? ⟨p, 3, none⟩ = some (.int .i64 0) := cell_of_block hb2 3
      have HZ := Lib.hid (show w2.drew.cell? ⟨p, 0, none⟩ = some (.slice A2 b.length c2) ∧ w2.drew.cell? ⟨p, 1, none⟩ = some (.int .i64 (most : Int)) ∧ w2.drew.cell? ⟨p, 2, none⟩ = some (.bool closed) from ⟨cell_of_block hb2 0, cell_of_block hb2 1, cell_of_block hb2 2⟩)
      have HLL := Lib.hid (HLK.out w2.drew (HW.out _ k2.drew') _ (ho2.bytes.keep0 (Keeps.refl [] _).drew'))
      have HKK := Lib.hid hk
      clear hz hb2 ho2 k2 hp hBs HDO HLK hk
      go_wp2_with fail
      go_region_held3 (fun W => W.cell? ⟨p, 0, none⟩ = some (.slice A2 b.length c2) ∧ W.cell? ⟨p, 1, none⟩ = some (.int .i64 (most : Int)) ∧ W.cell? ⟨p, 2, none⟩ = some (.bool closed))
        (first | exact HZ.out | exact HB3.out.low | exact HB4.out.low | exact HB5.out.low)
        (first | (go_at_call 9; refine HLL.out.mono ?_; rintro e w3 ⟨rfl, k3⟩; have hb3 : SnB w3 p (.slice A2 b.length c2) ⟨b, most, closed, 0, name⟩ := (k3.block p (lt_of_block H2.out) (by simp)).trans H2.out; have HB3 := Lib.hid hb3; have HB4 := Lib.hid (hb3.set3 t); have HB5 := Lib.hid ((hb3.set3 t).set4 nm); have x3 : w3.cell? ⟨p, 3, none⟩ = some (.int .i64 0) := cell_of_block hb3 3; have z3 : w3.frozen? ⟨p, 3, none⟩ = false := free_of_block hb3 3; have x4 : (w3.setCell ⟨p, 3, none⟩ (.int .i64 t)).cell? ⟨p, 4, none⟩ = some (.string name) := cell_of_block (hb3.set3 t) 4; have z4 : (w3.setCell ⟨p, 3, none⟩ (.int .i64 t)).frozen? ⟨p, 4, none⟩ = false := free_of_block (hb3.set3 t) 4; have HK3 := Lib.hid k3; clear hb3 k3))
      have HC := Lib.hid (show SnAt ((w3.setCell ⟨p, 3, none⟩ (.int .i64 t)).setCell ⟨p, 4, none⟩ (.string nm)) B' p ⟨b, most, closed, t, nm⟩ ∧ Keeps [p] w ((w3.setCell ⟨p, 3, none⟩ (.int .i64 t)).setCell ⟨p, 4, none⟩ (.string nm)) from by
        have kk : Keeps [] w2 w3 := (Keeps.refl [] w2).drew'.trans HK3.out
        have ks := (Keeps.setCell w3 ⟨p, 3, none⟩ (.int .i64 t)).trans (Keeps.setCell (w3.setCell ⟨p, 3, none⟩ (.int .i64 t)) ⟨p, 4, none⟩ (.string nm))
        exact ⟨⟨HP.out.1, Nat.le_trans HP.out.2 (Nat.le_trans kk.size ks.size), _, HB5.out, own_setCell (own_setCell (own_keep0 O2.out kk) _ _ HP.out.1) _ _ HP.out.1⟩, (K2.out.trans (kk.mono (by simp))).trans ks⟩)
      have y3 : ((w3.setCell ⟨p, 3, none⟩ (.int .i64 t)).setCell ⟨p, 4, none⟩ (.string nm)).cell? ⟨p, 3, none⟩ = some (.int .i64 t) := cell_of_block HB5.out 3
      have y4 : ((w3.setCell ⟨p, 3, none⟩ (.int .i64 t)).setCell ⟨p, 4, none⟩ (.string nm)).cell? ⟨p, 4, none⟩ = some (.string nm) := cell_of_block HB5.out 4
      clear x3 z3 x4 z4
      generalize (w3.setCell ⟨p, 3, none⟩ (.int .i64 t)).setCell ⟨p, 4, none⟩ (.string nm) = w6 at HC y3 y4 ⊢
      have HY := Lib.hid (show w6.drew.cell? ⟨p, 3, none⟩ = some (.int .i64 t) ∧ w6.drew.cell? ⟨p, 4, none⟩ = some (.string nm) from ⟨y3, y4⟩)
      clear y3 y4
      go_wp2_with fail
      go_region_held3 (fun W => W.cell? ⟨p, 3, none⟩ = some (.int .i64 t) ∧ W.cell? ⟨p, 4, none⟩ = some (.string nm))
        (exact HY.out)
        (fail)
      go_wp2_with fail
      go_ret3
      exact ⟨rfl, fun h => absurd HKK.out h, fun _ => ⟨HC.out.1.keep0 (Keeps.refl [] _).drew', HC.out.2.drew'⟩⟩
    · have htb : (told == 0) = false := by simp [ht]
      rw [show tellS ⟨b, most, closed, told, name⟩ = ⟨b, most, closed, told, name⟩ by unfold tellS; rw [if_neg ht]]
      clear ok ok'
      dsimp only [ansV]
      go_enter Tryz.func29, Tryz.ntmps29
      go_wp2_with fail
      refine HN.out.mono ?_
      rintro e w1 ⟨rfl, h1⟩
      obtain rfl := h1.symm
      clear HN h1
      go_wp2_with fail
      refine HDO.out.mono ?_
      rintro e w2 ⟨rfl, -, hz⟩
      obtain ⟨⟨hp, hBs, v2, hb2, ho2⟩, k2⟩ := hz hk
      have H2 := Lib.hid (hz hk)
      have x3 : w2.cell? ⟨p, 3, none⟩ = some (.int .i64 told) := cell_of_block hb2 3
      have HZ := Lib.hid (show w2.drew.cell? ⟨p, 3, none⟩ = some (.int .i64 told) ∧ w2.drew.cell? ⟨p, 4, none⟩ = some (.string name) from ⟨cell_of_block hb2 3, cell_of_block hb2 4⟩)
      clear hz hb2 ho2 k2 hp hBs HDO
      go_wp2_with fail
      go_region_held3 (fun W => W.cell? ⟨p, 3, none⟩ = some (.int .i64 told) ∧ W.cell? ⟨p, 4, none⟩ = some (.string name))
        (exact HZ.out)
        (fail)
      go_wp2_with fail
      go_ret3
      exact ⟨rfl, fun h => absurd hk h, fun _ => ⟨H2.out.1.keep0 (Keeps.refl [] _).drew', H2.out.2.drew'⟩⟩
  · have hkb : (k != 0) = true := by simp [hk]
    rw [show ansS (k, s') = ((0, ByteArray.empty, k), s') by unfold ansS; rw [if_pos (by simpa using hk)]]
    dsimp only [ansV]
    clear ok ok'
    go_enter Tryz.func29, Tryz.ntmps29
    go_wp2_with fail
    refine HN.out.mono ?_
    rintro e w1 ⟨rfl, h1⟩
    obtain rfl := h1.symm
    clear HN h1
    go_wp2_with fail
    refine HDO.out.mono ?_
    rintro e w2 ⟨rfl, hk2, -⟩
    have K2 := Lib.hid (hk2 hk)
    clear hk2 HDO
    go_wp2_with fail
    go_ret3
    exact ⟨rfl, fun _ => K2.out, fun h => absurd h hk⟩
theorem close1_any (w : World) (B p x : Nat) (s : SS) (hs : SnAt w B p s) (hx : w.heap[x]? = some (.cells #[.pointer (some ⟨p, 0, none⟩)] 30 (0, 0))) :
    Calls Tryz.prog 32 #[.pointer (some ⟨x, 0, none⟩)] w fun e w' => e = .returned (.int .i64 0) ∧ SnAt w' B p { s with closed := true } ∧ Keeps [p] w w' := by
  obtain ⟨hp, hBs, v, h2, h3⟩ := hs
  have cx : w.cell? ⟨x, 0, none⟩ = some (.pointer (some ⟨p, 0, none⟩)) := cell_of_block hx 0
  have cp : w.cell? ⟨p, 2, none⟩ = some (.bool s.closed) := cell_of_block h2 2
  have zp : w.frozen? ⟨p, 2, none⟩ = false := free_of_block h2 2
  have F := Lib.hid (show SnAt (w.setCell ⟨p, 2, none⟩ (.bool true)) B p { s with closed := true } ∧ Keeps [p] w (w.setCell ⟨p, 2, none⟩ (.bool true)) from
    ⟨⟨hp, Nat.le_trans hBs (Keeps.setCell w ⟨p, 2, none⟩ (.bool true)).size, v, heap_setCell_self h2 2 _, own_setCell h3 _ _ hp⟩, Keeps.setCell w ⟨p, 2, none⟩ (.bool true)⟩)
  obtain ⟨cl, hcl⟩ : ∃ cl, s.closed = cl := ⟨_, rfl⟩
  rw [hcl] at cp
  clear h2 h3 hx hcl
  go_enter Tryz.func32, Tryz.ntmps32
  go_wp2_with fail
  go_ret
  exact ⟨rfl, F.out⟩
set_option maxHeartbeats 1000000 in
theorem stake_any (w : World) (B p : Nat) (s : SS) (hw : ∀ x, Keeps [p] w x → LW x) (hs : SnAt w B p s) (ok : SOk s) (A : Option Addr) (n c : Nat) (b : List UInt8) (hb : BytesV w (.slice A n c) b) (hm : n ≤ 9223372036854775807) :
    Calls Tryz.prog 13 #[.pointer (some ⟨p, 0, none⟩), .slice A n c] w fun e w' => e = .returned (ansV (ansS (takeS s b)).1) ∧ ((takeS s b).1 ≠ 0 → Keeps [] w w') ∧ ((takeS s b).1 = 0 → SnAt w' w.heap.size p (tellS (takeS s b).2) ∧ Keeps [p] w w') := by
  have hpw := hs.lt
  have hmf : ∀ (fn : Fn) (first cap : Array Value) (w : World), (Instr.makeFunc fn first cap).run Tryz.prog w = .ok (.func fn first cap) w := fun _ _ _ _ => rfl
  obtain ⟨X, hX⟩ : ∃ X, w.heap.size = X := ⟨_, rfl⟩
  obtain ⟨w1, hw1⟩ : ∃ w1, w.alloc (.cells #[.pointer (some ⟨p, 0, none⟩)] 30) = w1 := ⟨_, rfl⟩
  have k1 : Keeps [] w w1 := by rw [← hw1]; exact Keeps.alloc [] w _
  have h1 : w1.heap[X]? = some (.cells #[.pointer (some ⟨p, 0, none⟩)] 30 (0, 0)) := by rw [← hw1, ← hX]; exact (MapKept.heap_alloc w _).1
  obtain ⟨Y, hY⟩ : ∃ Y, w1.heap.size = Y := ⟨_, rfl⟩
  obtain ⟨w2, hw2⟩ : ∃ w2, w1.alloc (.cells #[.slice A n c] 22) = w2 := ⟨_, rfl⟩
  have k2 : Keeps [] w1 w2 := by rw [← hw2]; exact Keeps.alloc [] w1 _
  have h2 : w2.heap[Y]? = some (.cells #[.slice A n c] 22 (0, 0)) := by rw [← hw2, ← hY]; exact (MapKept.heap_alloc w1 _).1
  have h1' : w2.heap[X]? = some (.cells #[.pointer (some ⟨p, 0, none⟩)] 30 (0, 0)) := (k2.block X (lt_of_block h1) (by simp)).trans h1
  have k12 := k1.trans k2
  have HK := Lib.hid k12
  have cx : w2.cell? ⟨X, 0, none⟩ = some (.pointer (some ⟨p, 0, none⟩)) := cell_of_block h1' 0
  have HD := Lib.hid (take1_any w2 B p X Y s (hs.keep0 k12) ok A n c b (hb.keep0 k12) h1' h2 hm)
  have hgr : w.heap.size ≤ w2.heap.size := k12.size
  have HA := Lib.hid (anew_any w2 B p s (takeS s b).2 (fun x k => hw x ((k12.mono (by simp)).trans k)) (hs.keep0 k12) ok (ok.take b) (takeS s b).1 30 #[.pointer (some ⟨X, 0, none⟩), .pointer (some ⟨Y, 0, none⟩)] w.heap.size hgr
    (fun args w => enters Tryz.func30 (by kernel_rfl) (by kernel_rfl) args w)
    (HD.out.mono fun e w' ⟨he, ha, hc⟩ => ⟨he, fun h => (ha h).2, fun h => ⟨(hc h).1.weak hgr hpw, (hc h).2⟩⟩))
  rw [show ((takeS s b).1, (takeS s b).2) = takeS s b from rfl] at HA
  obtain ⟨r, hr⟩ : ∃ r, (ansS (takeS s b)).1 = r := ⟨_, rfl⟩
  obtain ⟨t, ht⟩ : ∃ t, takeS s b = t := ⟨_, rfl⟩
  rw [hr] at HA ⊢
  rw [ht] at HA ⊢
  obtain ⟨r1, r2, r3⟩ := r
  obtain ⟨t1, t2⟩ := t
  dsimp only [ansV] at HA ⊢
  clear hr ht HD h1 h2 h1' k1 k2 k12 hb hs hw ok hgr
  clear hpw
  go_enter Tryz.func13, Tryz.ntmps13
  go_wp2_with fail
  refine HA.out.mono ?_
  rintro e w3 ⟨rfl, ha, hc⟩
  have HF := Lib.hid (And.intro ha hc)
  clear ha hc HA
  go_wp2_with fail
  go_ret3
  exact ⟨rfl, fun h => HK.out.trans (HF.out.1 h), fun h => ⟨(HF.out.2 h).1, (HK.out.mono (by simp)).trans (HF.out.2 h).2⟩⟩
set_option maxHeartbeats 1000000 in
theorem sclose_any (w : World) (B p : Nat) (s : SS) (hw : ∀ x, Keeps [p] w x → LW x) (hs : SnAt w B p s) (ok : SOk s) :
    Calls Tryz.prog 14 #[.pointer (some ⟨p, 0, none⟩)] w fun e w' => e = .returned (ansV (ansS (0, { s with closed := true })).1) ∧ SnAt w' B p (tellS { s with closed := true }) ∧ Keeps [p] w w' := by
  have hpw := hs.lt
  have hmf : ∀ (fn : Fn) (first cap : Array Value) (w : World), (Instr.makeFunc fn first cap).run Tryz.prog w = .ok (.func fn first cap) w := fun _ _ _ _ => rfl
  obtain ⟨X, hX⟩ : ∃ X, w.heap.size = X := ⟨_, rfl⟩
  obtain ⟨w1, hw1⟩ : ∃ w1, w.alloc (.cells #[.pointer (some ⟨p, 0, none⟩)] 30) = w1 := ⟨_, rfl⟩
  have k1 : Keeps [] w w1 := by rw [← hw1]; exact Keeps.alloc [] w _
  have h1 : w1.heap[X]? = some (.cells #[.pointer (some ⟨p, 0, none⟩)] 30 (0, 0)) := by rw [← hw1, ← hX]; exact (MapKept.heap_alloc w _).1
  have HK := Lib.hid k1
  have cx : w1.cell? ⟨X, 0, none⟩ = some (.pointer (some ⟨p, 0, none⟩)) := cell_of_block h1 0
  have hB : B ≤ w1.heap.size := Nat.le_trans hs.2.1 k1.size
  have HA := Lib.hid (anew_any w1 B p s { s with closed := true } (fun x k => hw x ((k1.mono (by simp)).trans k)) (hs.keep0 k1) ok ok.close 0 32 #[.pointer (some ⟨X, 0, none⟩)] B hB
    (fun args w => enters Tryz.func32 (by kernel_rfl) (by kernel_rfl) args w)
    ((close1_any w1 B p X s (hs.keep0 k1) h1).mono fun e w' ⟨he, ha, hc⟩ => ⟨he, fun h => absurd rfl h, fun _ => ⟨ha, hc⟩⟩))
  obtain ⟨r, hr⟩ : ∃ r, (ansS (0, { s with closed := true })).1 = r := ⟨_, rfl⟩
  obtain ⟨t, ht⟩ : ∃ t, tellS { s with closed := true } = t := ⟨_, rfl⟩
  rw [hr, ht] at HA ⊢
  obtain ⟨r1, r2, r3⟩ := r
  dsimp only [ansV] at HA ⊢
  clear hr ht h1 k1 hs hw ok hB
  clear hpw
  go_enter Tryz.func14, Tryz.ntmps14
  go_wp2_with fail
  refine HA.out.mono ?_
  rintro e w3 ⟨rfl, ha, hc⟩
  have HF := Lib.hid (hc (by first | rfl | trivial))
  clear ha hc HA
  go_wp2_with fail
  go_ret3
  exact ⟨rfl, HF.out.1, (HK.out.mono (by simp)).trans HF.out.2⟩
end Go.Proofs.YtpoheemjdieogaaGreatDoor
