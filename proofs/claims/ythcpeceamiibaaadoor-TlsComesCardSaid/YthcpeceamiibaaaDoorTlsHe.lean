/-
  The law TlsHellos: both Hellos at any arguments, and the walk. No condition.
-/
import Derived.Test.YthcpeceamiibaaaDoorTlsRi
import Derived.Test.YthcpeceamiibaaaDoorTlsE
import Derived.Test.YthcpeceamiibaaaDoorTlsCut
import Derived.Test.YthcpeceamiibaaaDoorTlsHo
namespace Go.Proofs.YthcpeceamiibaaaDoor
open Go.RowKit Go.ChangeShapes Go.WideShapes Go.ChangeAt Go.Joins Go.Lib
set_option linter.unusedVariables false
set_option linter.unusedSimpArgs false

def helloAll (name : ByteArray) (before behind : List UInt8) (parts : List Int) : Int × List UInt8 :=
  if name.data.toList ≠ [] ∧ foldIs name = false then (1, []) else helloR name.data.toList before behind parts
theorem ba_nil {s : ByteArray} (h : s.data.toList = []) : s = ByteArray.empty := by
  obtain ⟨⟨l⟩⟩ := s
  simp at h
  subst h
  rfl
theorem is_len {s : ByteArray} (h : foldIs s = true) : s.size ≤ 253 := by
  unfold foldIs at h
  rw [foldL_eq] at h
  obtain ⟨l, hl⟩ := Option.isSome_iff_exists.1 h
  have := (foldA_some hl).2.1
  rw [size_eq]
  exact this
theorem hello_all (w : World) (hw : LW w) (name : ByteArray) (A1 A2 : Option Addr) (n1 n2 c1 c2 : Nat) (before behind : List UInt8) (hb1 : BytesV w (.slice A1 n1 c1) before) (hb2 : BytesV w (.slice A2 n2 c2) behind)
    (pA : Option Addr) (pn pc : Nat) (parts : List Int) (hp : IntsV w pA pn pc parts) (hpn : pn ≤ 1000) :
    Calls Tryd.prog 9 #[.string name, .slice A1 n1 c1, .slice A2 n2 c2, .slice pA pn pc] w fun en w' => ∃ v, en = .returned (.tuple #[v, .int .i64 (helloAll name before behind parts).1]) ∧ OwnB w' w.heap.size v (helloAll name before behind parts).2 ∧ Keeps [] w w' := by
  have hl1 : before.length = n1 := hb1.form.1.symm
  have hl2 : behind.length = n2 := hb2.form.1.symm
  unfold helloAll
  by_cases hne : name.data.toList = []
  · rw [if_neg (by simp [hne])]
    have he := ba_nil hne
    unfold helloR
    cases hlow : parts.any lowQ with
    | true =>
      rw [if_pos rfl]
      exact (hello_low_none w hw name he A1 A2 n1 n2 c1 c2 pA pn pc parts hp hpn hlow).mono fun e w' ⟨h, k⟩ => ⟨_, h, World.ownsRow_nil _ _ _ _, k⟩
    | false =>
      rw [if_neg (by simp), hl1, hl2]
      by_cases hlong : 1000 < n1 ∨ 1000 < n2
      · rw [if_pos hlong]
        exact (hello_long_none w hw name he A1 A2 n1 n2 c1 c2 pA pn pc parts hp hpn hlow hlong).mono fun e w' ⟨h, k⟩ => ⟨_, h, World.ownsRow_nil _ _ _ _, k⟩
      · rw [if_neg hlong]
        exact hello_none w hw name he A1 A2 n1 n2 c1 c2 before behind hb1 hb2 (by omega) (by omega) pA pn pc parts hp hpn hlow
  · cases hfi : foldIs name with
    | false =>
      rw [if_pos ⟨hne, rfl⟩]
      exact (hello_arg w hw name ⟨hne, hfi⟩ A1 A2 n1 n2 c1 c2 pA pn pc parts hp hpn).mono fun e w' ⟨h, k⟩ => ⟨_, h, World.ownsRow_nil _ _ _ _, k⟩
    | true =>
      rw [if_neg (by simp)]
      unfold helloR
      cases hlow : parts.any lowQ with
      | true =>
        rw [if_pos rfl]
        exact (hello_low_named w hw name ⟨hne, hfi⟩ A1 A2 n1 n2 c1 c2 pA pn pc parts hp hpn hlow).mono fun e w' ⟨h, k⟩ => ⟨_, h, World.ownsRow_nil _ _ _ _, k⟩
      | false =>
        rw [if_neg (by simp), hl1, hl2]
        by_cases hlong : 1000 < n1 ∨ 1000 < n2
        · rw [if_pos hlong]
          exact (hello_long_named w hw name ⟨hne, hfi⟩ A1 A2 n1 n2 c1 c2 pA pn pc parts hp hpn hlow hlong).mono fun e w' ⟨h, k⟩ => ⟨_, h, World.ownsRow_nil _ _ _ _, k⟩
        · rw [if_neg hlong]
          exact hello_named w hw name ⟨hne, is_len hfi, hfi⟩ A1 A2 n1 n2 c1 c2 before behind hb1 hb2 (by omega) (by omega) pA pn pc parts hp hpn hlow
set_option maxRecDepth 100000 in
set_option maxHeartbeats 4000000 in
theorem rhello_arg (w : World) (name : ByteArray) (hnm : name.data.toList ≠ [] ∧ foldIs name = false) (v1 v2 v3 : Value) :
    Calls Tryd.prog 14 #[.string name, v1, v2, v3] w fun en w' => en = .returned (.tuple #[.slice none 0 0, .int .i64 1]) ∧ Keeps [] w w' := by
  have HF := Lib.hid (rfold_any w name)
  obtain ⟨hne, hfi⟩ := hnm
  have hE : name.toList.isEmpty = false := by rw [Lib.toList_data]; cases h : name.data.toList with
    | nil => exact absurd h hne
    | cons a l => rfl
  obtain ⟨low, hlow2⟩ : ∃ low, foldB name = low := ⟨_, rfl⟩
  rw [hfi, hlow2] at HF
  clear hne hfi hlow2
  go_enter Tryd.func14, Tryd.ntmps14
  go_wp2_with fail
  refine HF.out.mono ?_
  rintro en w1 ⟨rfl, k1⟩
  have HK1 := Lib.hid k1
  clear k1 HF
  go_wp2_with fail
  refine bodyPost_ret (v := .tuple #[.slice none 0 0, .int .i64 1]) (by simp [results, Tryd.results14, go_sem]) rfl ?_
  exact ⟨rfl, HK1.out⟩
theorem rhello_all (w : World) (name : ByteArray) (A1 A2 : Option Addr) (n1 n2 c1 c2 : Nat) (before behind : List UInt8) (hb1 : BytesV w (.slice A1 n1 c1) before) (hb2 : BytesV w (.slice A2 n2 c2) behind)
    (pA : Option Addr) (pn pc : Nat) (parts : List Int) (hp : IntsV w pA pn pc parts) (hpn : pn ≤ 1000) :
    Calls Tryd.prog 14 #[.string name, .slice A1 n1 c1, .slice A2 n2 c2, .slice pA pn pc] w fun en w' => ∃ v, en = .returned (.tuple #[v, .int .i64 (helloAll name before behind parts).1]) ∧ OwnB w' w.heap.size v (helloAll name before behind parts).2 ∧ Keeps [] w w' := by
  unfold helloAll
  by_cases hne : name.data.toList = []
  · rw [if_neg (by simp [hne])]
    exact rhello_none w name (ba_nil hne) A1 A2 n1 n2 c1 c2 before behind hb1 hb2 pA pn pc parts hp hpn
  · cases hfi : foldIs name with
    | false =>
      rw [if_pos ⟨hne, rfl⟩]
      exact (rhello_arg w name ⟨hne, hfi⟩ _ _ _).mono fun e w' ⟨h, k⟩ => ⟨_, h, World.ownsRow_nil _ _ _ _, k⟩
    | true =>
      rw [if_neg (by simp)]
      exact rhello_named w name ⟨hne, is_len hfi, hfi⟩ A1 A2 n1 n2 c1 c2 before behind hb1 hb2 pA pn pc parts hp hpn
set_option maxRecDepth 100000 in
theorem equal_any (w : World) (A1 A2 : Option Addr) (n1 n2 c1 c2 : Nat) (l : List UInt8) (h1 : BytesV w (.slice A1 n1 c1) l) (h2 : BytesV w (.slice A2 n2 c2) l) : Calls Tryd.prog 15 #[.slice A1 n1 c1, .slice A2 n2 c2] w fun e w' => e = .returned (.bool true) ∧ w' = w := by
  have e1 := h1.str0 (P := Tryd.prog) 22 9 5 Tryd.underlying22 Tryd.underlying5 Tryd.underlying9
  have e2 := h2.str0 (P := Tryd.prog) 22 9 5 Tryd.underlying22 Tryd.underlying5 Tryd.underlying9
  obtain ⟨L, hL⟩ : ∃ L : ByteArray, (⟨l.toArray⟩ : ByteArray) = L := ⟨_, rfl⟩
  rw [hL] at e1 e2
  clear h1 h2
  go_enter Tryd.func15, Tryd.ntmps15
  go_wp2_with fail
  go_ret
  exact ⟨rfl, rfl⟩
theorem IntsV.cut {w : World} {A : Option Addr} {n c m : Nat} {l : List Int} (h : IntsV w A n c l) (hm : m ≤ n) : IntsV w A m c (l.take m) := by
  refine ⟨by rw [List.length_take, h.1]; omega, by have := h.2.1; omega, h.2.2.1, fun hp => ?_⟩
  obtain ⟨g, o, e, hc⟩ := h.2.2.2 (by omega)
  refine ⟨g, o, e, fun i z hz => hc i z ?_⟩
  rw [List.getElem?_take] at hz
  split at hz
  · exact hz
  · cases hz
theorem BytesV.cut' {w : World} {A : Option Addr} {n c m : Nat} {l : List UInt8} (h : BytesV w (.slice A n c) l) (hm : m ≤ n) : BytesV w (.slice A m c) (l.take m) := by
  obtain ⟨hn, hc, hx⟩ := h.form
  obtain ⟨A', c', e, _, _, h3⟩ := h
  injection e with e1 e2 e3
  subst e1 e3
  have hl : (l.take m).length = m := by rw [List.length_take]; omega
  refine ⟨A, c, by rw [hl], by omega, hx, fun hp => ?_⟩
  obtain ⟨g, o, e, hcell⟩ := h3 (by omega)
  refine ⟨g, o, e, fun i x hx => hcell i x ?_⟩
  rw [List.getElem?_take] at hx
  split at hx
  · exact hx
  · cases hx
set_option maxRecDepth 100000 in
set_option maxHeartbeats 8000000 in
theorem hellos_walk (w : World) (hw : LW w) (s0 : ByteArray) (A1 A2 A3 : Option Addr) (n1 n2 n3 c1 c2 c3 : Nat) (l1 l2 : List UInt8) (l3 : List Int) (hb1 : BytesV w (.slice A1 n1 c1) l1) (hb2 : BytesV w (.slice A2 n2 c2) l2) (hp : IntsV w A3 n3 c3 l3) :
    Calls Tryd.prog 5 #[.agg #[.string s0, .slice A1 n1 c1, .slice A2 n2 c2, .slice A3 n3 c3]] w fun e w' => e = .returned (.bool true) ∧ Keeps [] w w' := by
  obtain ⟨bx, hbx⟩ : ∃ bx, w.heap.size = bx := ⟨_, rfl⟩
  obtain ⟨w1, hw1⟩ : ∃ w1, w.alloc (.cells #[.string s0, .slice A1 n1 c1, .slice A2 n2 c2, .slice A3 n3 c3] 25) = w1 := ⟨_, rfl⟩
  have hbk : w1.heap[bx]? = some (.cells #[.string s0, .slice A1 n1 c1, .slice A2 n2 c2, .slice A3 n3 c3] 25 (0, 0)) := by rw [← hw1, ← hbx]; exact (MapKept.heap_alloc w _).1
  have k1 : Keeps [] w w1 := by rw [← hw1]; exact Keeps.alloc [] w _
  have d0 : w1.cell? ⟨bx, 0, none⟩ = some (.string s0) := cell_of_block hbk 0
  have d1 : w1.cell? ⟨bx, 1, none⟩ = some (.slice A1 n1 c1) := cell_of_block hbk 1
  have d2 : w1.cell? ⟨bx, 2, none⟩ = some (.slice A2 n2 c2) := cell_of_block hbk 2
  have d3 : w1.cell? ⟨bx, 3, none⟩ = some (.slice A3 n3 c3) := cell_of_block hbk 3
  have HCU := Lib.hid (cut_any w1 s0 A1 A2 A3 n1 n2 n3 c1 c2 c3 _ _ _ _ rfl rfl rfl rfl hb1.form.2.1 hb2.form.2.1 hp.2.1)
  obtain ⟨m1, hm1⟩ : ∃ m, min n1 1200 = m := ⟨_, rfl⟩
  obtain ⟨m2, hm2⟩ : ∃ m, min n2 1200 = m := ⟨_, rfl⟩
  obtain ⟨m3, hm3⟩ : ∃ m, min n3 20 = m := ⟨_, rfl⟩
  obtain ⟨s, hs⟩ : ∃ s, s0.extract 0 (min s0.size 400) = s := ⟨_, rfl⟩
  rw [hm1, hm2, hm3, hs] at HCU
  have B1 := Lib.hid (hb1.cut' (m := m1) (by omega))
  have B2 := Lib.hid (hb2.cut' (m := m2) (by omega))
  have B3 := Lib.hid (hp.cut (m := m3) (by omega))
  have hm3b : m3 ≤ 20 := by omega
  have HW := Lib.hid hw
  have HBK := Lib.hid hbk
  have HK1 := Lib.hid k1
  have hbw : w.heap.size ≤ bx := by omega
  clear hb1 hb2 hp hbk k1 hm1 hm2 hm3 hs hw
  go_enter Tryd.func5, Tryd.ntmps5
  go_wp2_with fail
  refine HCU.out.mono ?_
  rintro e w2 ⟨rfl, k2⟩
  have hb2 := (k2.block bx (lt_of_block HBK.out) (by simp)).trans HBK.out
  have e0 : w2.cell? ⟨bx, 0, none⟩ = some (.string s0) := cell_of_block hb2 0
  have e1 : w2.cell? ⟨bx, 1, none⟩ = some (.slice A1 n1 c1) := cell_of_block hb2 1
  have e2 : w2.cell? ⟨bx, 2, none⟩ = some (.slice A2 n2 c2) := cell_of_block hb2 2
  have e3 : w2.cell? ⟨bx, 3, none⟩ = some (.slice A3 n3 c3) := cell_of_block hb2 3
  have z0 : w2.frozen? ⟨bx, 0, none⟩ = false := free_of_block hb2 0
  have z1 : w2.frozen? ⟨bx, 1, none⟩ = false := free_of_block hb2 1
  have z2 : w2.frozen? ⟨bx, 2, none⟩ = false := free_of_block hb2 2
  have z3 : w2.frozen? ⟨bx, 3, none⟩ = false := free_of_block hb2 3
  have HB2 := Lib.hid hb2
  have HK2 := Lib.hid (HK1.out.trans k2)
  clear hb2 k2 HCU d0 d1 d2 d3
  obtain ⟨w3, hw3⟩ : ∃ w3, (((w2.setCell ⟨bx, 0, none⟩ (.string s)).setCell ⟨bx, 1, none⟩ (.slice A1 m1 c1)).setCell ⟨bx, 2, none⟩ (.slice A2 m2 c2)).setCell ⟨bx, 3, none⟩ (.slice A3 m3 c3) = w3 := ⟨_, rfl⟩
  have g0 := heap_setCell_self HB2.out 0 (.string s)
  have g1 := heap_setCell_self g0 1 (.slice A1 m1 c1)
  have g2 := heap_setCell_self g1 2 (.slice A2 m2 c2)
  have g3 := heap_setCell_self g2 3 (.slice A3 m3 c3)
  have kk : Keeps [bx] w2 w3 := by rw [← hw3]; exact ((((Keeps.setCell w2 ⟨bx, 0, none⟩ _).trans (Keeps.setCell _ ⟨bx, 1, none⟩ _)).trans (Keeps.setCell _ ⟨bx, 2, none⟩ _)).trans (Keeps.setCell _ ⟨bx, 3, none⟩ _))
  rw [hw3] at g3
  have r0 : w3.cell? ⟨bx, 0, none⟩ = some (.string s) := by simpa using cell_of_block g3 0
  have r1 : w3.cell? ⟨bx, 1, none⟩ = some (.slice A1 m1 c1) := by simpa using cell_of_block g3 1
  have r2 : w3.cell? ⟨bx, 2, none⟩ = some (.slice A2 m2 c2) := by simpa using cell_of_block g3 2
  have r3 : w3.cell? ⟨bx, 3, none⟩ = some (.slice A3 m3 c3) := by simpa using cell_of_block g3 3
  have HK3 := Lib.hid (show Keeps [] w w3 from ((HK2.out.mono (T := [bx]) (by simp)).trans kk).fresh (fun x hx hl => by simp at hx; omega))
  have HR := Lib.hid (And.intro r0 (And.intro r1 (And.intro r2 r3)))
  clear g0 g1 g2 g3 kk
  go_wp2_with fail
  have HA := Lib.hid (hello_all w3 (HW.out.keep0 HK3.out) s A1 A2 m1 m2 c1 c2 (l1.take m1) (l2.take m2) (B1.out.keep0 HK3.out) (B2.out.keep0 HK3.out) A3 m3 c3 (l3.take m3) (B3.out.keep0 HK3.out) (by omega))
  obtain ⟨K, hK⟩ : ∃ K, (helloAll s (l1.take m1) (l2.take m2) (l3.take m3)).1 = K := ⟨_, rfl⟩
  obtain ⟨L, hL⟩ : ∃ L, (helloAll s (l1.take m1) (l2.take m2) (l3.take m3)).2 = L := ⟨_, rfl⟩
  rw [hK, hL] at HA
  refine HA.out.mono ?_
  rintro e w4 ⟨v4, rfl, ho4, k4⟩
  have s0' := cell_keeps k4 HR.out.1 (by simp)
  have s1' := cell_keeps k4 HR.out.2.1 (by simp)
  have s2' := cell_keeps k4 HR.out.2.2.1 (by simp)
  have s3' := cell_keeps k4 HR.out.2.2.2 (by simp)
  have HK4 := Lib.hid (HK3.out.trans k4)
  have HO4 := Lib.hid ho4
  clear r0 r1 r2 r3 k4 ho4 HA HR z0 z1 z2 z3 e0 e1 e2 e3 hw3
  go_wp2_with fail
  have HB := Lib.hid (rhello_all w4 s A1 A2 m1 m2 c1 c2 (l1.take m1) (l2.take m2) (B1.out.keep0 HK4.out) (B2.out.keep0 HK4.out) A3 m3 c3 (l3.take m3) (B3.out.keep0 HK4.out) (by omega))
  rw [hK, hL] at HB
  refine HB.out.mono ?_
  rintro e w5 ⟨v5, rfl, ho5, k5⟩
  have HK5 := Lib.hid (HK4.out.trans k5)
  have HO5 := Lib.hid ho5
  have HK45 := Lib.hid k5
  have HAW := Lib.hid (awake_any w5 (HW.out.keep0 HK5.out))
  clear k5 ho5 HB hK hL s0' s1' s2' s3'
  go_wp2_with fail
  refine HAW.out.mono ?_
  rintro e w6 ⟨rfl, k6⟩
  have F4 := (HO4.out.bytes.keep0 HK45.out).keep0 k6
  have F5 := HO5.out.bytes.keep0 k6
  obtain ⟨A4, c4, rfl, _⟩ := id F4
  obtain ⟨A5, c5, rfl, _⟩ := id F5
  have HE := Lib.hid (equal_any w6 _ _ _ _ _ _ L F4 F5)
  have HK6 := Lib.hid (HK5.out.trans k6)
  clear k6 HAW F4 F5
  go_wp2_with fail
  refine HE.out.mono ?_
  rintro e w7 ⟨rfl, rfl⟩
  go_wp2_with fail
  go_ret
  exact ⟨rfl, HK6.out⟩
set_option maxRecDepth 100000 in
theorem tlsHellos_typed {H : Type} (enc : TypeId × Value → H) (W : World) (base : Nat) {v0 : Value} {d0 : DataW H} {p0 : List MemPlace}
    (o0 : Value.okWide Tryd.prog W .any base 25 v0)
    (h0 : DataW.Trod enc Tryd.prog W 0 (fun _ => true) true 25 v0 d0 p0) (hL : LW W) :
    Calls Tryd.prog 5 #[v0] W fun e W' => e = .returned (.bool true) ∧ Below W.heap.size W W' := by
  obtain ⟨s, A1, n1, c1, l1, A2, n2, c2, l2, A3, n3, c3, l3, rfl, hb1, hb2, hb3⟩ := open_made o0 h0
  exact (hellos_walk W hL s A1 A2 A3 n1 n2 n3 c1 c2 c3 l1 l2 l3 hb1 hb2 hb3).mono fun e W' ⟨he, k⟩ => ⟨he, k.below (Nat.le_refl _) (by simp)⟩
end Go.Proofs.YthcpeceamiibaaaDoor
