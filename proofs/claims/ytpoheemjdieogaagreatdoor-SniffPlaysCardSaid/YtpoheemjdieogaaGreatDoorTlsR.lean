/-
  The walks of wire.Reader's methods at an open reader. Condition: at most 100,000 bytes.
-/
import Derived.Test.YtpoheemjdieogaaGreatDoorKitC
import Derived.Deep.RegionHeld3
namespace Go.Proofs.YtpoheemjdieogaaGreatDoor
open Go.RowKit Go.Lib
set_option linter.unusedVariables false
set_option linter.unusedSimpArgs false

/-- what a reader gives up with -/
def gu (r : Nat) (c : Int) : List PanicEntry := [{ v := .iface 151 (.agg #[.pointer (some ⟨r, 0, none⟩), .int .i64 c]), recovered := false }]
/-- an open reader -/
def RdAt (w : World) (r : Nat) (bv : Value) (at_ : Nat) : Prop := w.heap[r]? = some (.cells #[bv, .int .i64 at_, .bool true] 149 (0, 0))
theorem RdAt.keep {w w' : World} {r : Nat} {bv : Value} {at_ : Nat} {S : List Nat} (h : RdAt w r bv at_) (k : Keeps S w w') (hS : r ∉ S) : RdAt w' r bv at_ := (k.block r (lt_of_block h) hS).trans h
theorem wrap_in {x : Int} (h1 : -4611686018427387904 ≤ x) (h2 : x ≤ 4611686018427387904) : IntKind.i64.wrap x = x := by rw [IntKind.wrap_i64]; omega
theorem RdAt.nou8 {w : World} {r : Nat} {A : Option Addr} {m c at_ : Nat} (h : RdAt w r (.slice A m c) at_) : NoU8 w r := fun i x hx => by
  have h0 := cell_of_block h i
  rw [h0] at hx
  rcases i with _ | _ | _ | i <;> simp at hx
set_option maxRecDepth 100000 in
theorem shut_any (w : World) (r : Nat) (bv : Value) (at_ : Nat) (h : RdAt w r bv at_) : Calls Tryz.prog 146 #[.pointer (some ⟨r, 0, none⟩)] w fun e w' => e = .returned (.bool false) ∧ w' = w := by
  have c2 : w.cell? ⟨r, 2, none⟩ = some (.bool true) := cell_of_block h 2
  clear h
  go_enter Tryz.func146, Tryz.ntmps146
  go_wp2_with fail
  go_ret
  exact ⟨rfl, rfl⟩
set_option maxRecDepth 100000 in
theorem at_any (w : World) (r : Nat) (bv : Value) (at_ : Nat) (h : RdAt w r bv at_) : Calls Tryz.prog 121 #[.pointer (some ⟨r, 0, none⟩)] w fun e w' => e = .returned (.int .i64 at_) ∧ w' = w := by
  have c1 : w.cell? ⟨r, 1, none⟩ = some (.int .i64 at_) := cell_of_block h 1
  have H := Lib.hid h
  clear h
  go_enter Tryz.func121, Tryz.ntmps121
  go_wp2_with fail
  refine (shut_any w r bv at_ H.out).mono ?_
  rintro e w' ⟨rfl, h2⟩
  obtain rfl := h2.symm
  clear h2
  go_wp2_with fail
  go_ret
  exact ⟨rfl, rfl⟩
set_option maxRecDepth 100000 in
theorem rleft_any (w : World) (r : Nat) (A : Option Addr) (n c at_ : Nat) (h : RdAt w r (.slice A n c) at_) (h1 : at_ ≤ n) (h2 : n ≤ 100000) : Calls Tryz.prog 159 #[.pointer (some ⟨r, 0, none⟩)] w fun e w' => e = .returned (.int .i64 ((n - at_ : Nat) : Int)) ∧ Keeps [] w w' := by
  have c0 : w.drew.cell? ⟨r, 0, none⟩ = some (.slice A n c) := cell_of_block h 0
  have c1 : w.drew.cell? ⟨r, 1, none⟩ = some (.int .i64 at_) := cell_of_block h 1
  have HC := Lib.hid (And.intro c0 c1)
  have hwr : wrap64 ((n : Int) - (at_ : Int)) = ((n - at_ : Nat) : Int) := by unfold wrap64; omega
  have HW := Lib.hid hwr
  have H := Lib.hid h
  clear h c0 c1 hwr
  go_enter Tryz.func159, Tryz.ntmps159
  go_wp2_with fail
  refine (shut_any w r _ at_ H.out).mono ?_
  rintro e w' ⟨rfl, h2⟩
  obtain rfl := h2.symm
  clear h2
  go_wp2_with fail
  go_region_held3 (fun W => W.cell? ⟨r, 0, none⟩ = some (.slice A n c) ∧ W.cell? ⟨r, 1, none⟩ = some (.int .i64 at_))
    (exact HC.out)
    (fail)
  go_wp2_with fail
  go_ret
  exact ⟨by show Ending.returned (Value.int .i64 (IntKind.i64.wrap ((n : Int) - (at_ : Int)))) = _; rw [wrap_in (by omega) (by omega)]; congr 2; omega, (Keeps.refl [] _).drew'⟩
set_option maxRecDepth 100000 in
theorem fail_any (w : World) (r : Nat) (bv : Value) (at_ : Nat) (h : RdAt w r bv at_) (c : Int) (hc : ¬ c = 0) : Calls Tryz.prog 118 #[.pointer (some ⟨r, 0, none⟩), .int .i64 c] w fun e w' => e = .panicked (gu r c) ∧ Keeps [] w w' := by
  have H := Lib.hid h
  have hc2 : (c != 0) = true := by simp [hc]
  clear h
  go_enter Tryz.func118, Tryz.ntmps118
  go_wp2_with fail
  refine (shut_any w r bv at_ H.out).mono ?_
  rintro e w' ⟨rfl, h2⟩
  obtain rfl := h2.symm
  clear h2
  go_wp2_with fail
  exact ⟨rfl, ⟨rfl, Keeps.refl _ _⟩⟩
/-- the next bytes -/
def BytesF (bs : List UInt8) (at_ n : Nat) : List UInt8 := (bs.drop at_).take n
set_option maxRecDepth 100000 in
set_option maxHeartbeats 2000000 in
theorem take_short (w : World) (r : Nat) (A : Option Addr) (m c at_ : Nat) (h : RdAt w r (.slice A m c) at_) (h1 : at_ ≤ m) (h2 : m ≤ 100000) (n : Nat) (hn : m - at_ < n) :
    Calls Tryz.prog 147 #[.pointer (some ⟨r, 0, none⟩), .int .i64 n] w fun e w' => e = .panicked (gu r 4) ∧ Keeps [] w w' := by
  have H := Lib.hid h
  have HL := Lib.hid (rleft_any w r A m c at_ h h1 h2)
  have hn0 : ¬ (n : Int) < 0 := by omega
  have hns : ((m - at_ : Nat) : Int) < (n : Int) := by omega
  clear h
  go_enter Tryz.func147, Tryz.ntmps147
  go_wp2_with fail
  refine HL.out.mono ?_
  rintro e w1 ⟨rfl, k1⟩
  have HF := Lib.hid (fail_any w1 r _ at_ (H.out.keep k1 (by simp)) 4 (by omega))
  have K1 := Lib.hid k1
  clear k1 HL
  go_wp2_with fail
  refine HF.out.mono ?_
  rintro e w2 ⟨rfl, k2⟩
  have K2 := Lib.hid (K1.out.trans k2)
  clear k2
  go_wp2_with fail
  exact ⟨rfl, rfl, K2.out⟩
set_option maxRecDepth 100000 in
set_option maxHeartbeats 2000000 in
theorem take_ok (w : World) (r : Nat) (A : Option Addr) (m c at_ : Nat) (bs : List UInt8) (hb : BytesV w (.slice A m c) bs) (h : RdAt w r (.slice A m c) at_) (h1 : at_ ≤ m) (h2 : m ≤ 100000) (n : Nat) (hn : n ≤ m - at_) :
    Calls Tryz.prog 147 #[.pointer (some ⟨r, 0, none⟩), .int .i64 n] w fun e w' => ∃ v, e = .returned v ∧ (∃ A c, v = .slice A n c ∧ BytesV w' (.slice A n c) (BytesF bs at_ n)) ∧ RdAt w' r (.slice A m c) (at_ + n) ∧ Keeps [r] w w' := by
  have H := Lib.hid h
  have HL := Lib.hid (rleft_any w r A m c at_ h h1 h2)
  have hn0 : ¬ (n : Int) < 0 := by omega
  have hns : ¬ ((m - at_ : Nat) : Int) < (n : Int) := by omega
  have HB := Lib.hid hb
  clear h hb
  go_enter Tryz.func147, Tryz.ntmps147
  go_wp2_with fail
  refine HL.out.mono ?_
  rintro e w1 ⟨rfl, k1⟩
  have hr1 := H.out.keep k1 (by simp)
  have c1 : w1.cell? ⟨r, 1, none⟩ = some (.int .i64 at_) := cell_of_block hr1 1
  have z1 := free_of_block hr1 1
  have K1 := Lib.hid k1
  have HR1 := Lib.hid hr1
  clear k1 HL hr1
  go_wp2_with fail
  refine wp_gn fun w2 hw2 => ?_
  rw [← Int.natCast_add] at hw2
  obtain ⟨p, hp⟩ : ∃ p, at_ + n = p := ⟨_, rfl⟩
  rw [hp] at hw2
  have hr2 : w2.heap[r]? = some (.cells #[.slice A m c, .int .i64 p, .bool true] 149 (0, 0)) := by
    rw [hw2]
    have h0 := heap_setCell_self HR1.out 1 (.int .i64 p)
    simpa using h0
  have k2 : Keeps [r] w w2 := by rw [hw2]; exact (K1.out.mono (T := [r]) (by simp)).trans (Keeps.setCell w1 ⟨r, 1, none⟩ _)
  have HC := Lib.hid (show w2.drew.cell? ⟨r, 0, none⟩ = some (.slice A m c) ∧ w2.drew.cell? ⟨r, 1, none⟩ = some (.int .i64 p) from ⟨cell_of_block hr2 0, cell_of_block hr2 1⟩)
  have HR2 := Lib.hid hr2
  have K2 := Lib.hid k2
  have hsub : IntKind.i64.wrap ((p : Int) - (n : Int)) = (at_ : Int) := by rw [wrap_in (by omega) (by omega)]; omega
  have hsub2 : wrap64 ((p : Int) - (n : Int)) = (at_ : Int) := by unfold wrap64; omega
  obtain ⟨hm1, hm2, hm3⟩ := HB.out.form
  have hb1 : (0 : Int) ≤ (at_ : Int) := by omega
  have hb2 : (at_ : Int) ≤ (p : Int) := by omega
  have hb3 : (p : Int) ≤ (c : Int) := by omega
  obtain ⟨X, hX⟩ : ∃ X, (if c = at_ then A else Option.map (fun x : Addr => x.add at_) A) = X := ⟨_, rfl⟩
  have HX := Lib.hid hX
  clear c1 z1 hw2 hr2 k2
  go_region_held3 (fun W => W.cell? ⟨r, 0, none⟩ = some (.slice A m c) ∧ W.cell? ⟨r, 1, none⟩ = some (.int .i64 p))
    (exact HC.out)
    (fail)
  have HRD := Lib.hid (show RdAt w2.drew r (.slice A m c) p from HR2.out)
  have HKD := Lib.hid K2.out.drew'
  have HBD := Lib.hid (HB.out.keep K2.out.drew' H.out.nou8)
  have hpn : p - at_ = n := by omega
  have HBY := Lib.hid (show BytesV w2.drew (.slice X (p - at_) (c - at_)) (BytesF bs at_ n) by
    have hX := HX.out
    rw [hpn]
    by_cases h0 : n = 0
    · subst h0
      have e : BytesF bs at_ 0 = [] := by simp [BytesF]
      rw [e]
      exact BytesV.empty _ (by omega)
    · have hc := HBD.out
      obtain ⟨g, o, rfl, _⟩ := hc.get (by omega)
      rw [if_neg (by omega)] at hX
      have := hc.sub (lo := at_) (hi := p) (by omega) (by omega) X (c - at_) (fun _ => by rw [← hX]; simp only [Option.map_some]; congr 1; unfold Addr.add; split <;> simp_all) (by omega) (by omega)
      rw [hpn] at this
      exact this)
  rw [hpn] at HBY ⊢
  clear hX HBD
  go_wp2_with fail
  go_ret
  exact ⟨_, rfl, ⟨X, c - at_, rfl, HBY.out⟩, by rw [hp]; exact HRD.out, HKD.out⟩
theorem bytesF_len {bs : List UInt8} {at_ n : Nat} (h : n ≤ bs.length - at_) : (BytesF bs at_ n).length = n := by
  unfold BytesF
  rw [List.length_take, List.length_drop]; omega
set_option maxRecDepth 100000 in
set_option maxHeartbeats 2000000 in
theorem bytes_short (w : World) (r : Nat) (A : Option Addr) (m c at_ : Nat) (h : RdAt w r (.slice A m c) at_) (h1 : at_ ≤ m) (h2 : m ≤ 100000) (n : Nat) (hn : m - at_ < n) :
    Calls Tryz.prog 120 #[.pointer (some ⟨r, 0, none⟩), .int .i64 n] w fun e w' => e = .panicked (gu r 4) ∧ Keeps [] w w' := by
  have HS := Lib.hid (shut_any w r _ at_ h)
  have HT := Lib.hid (take_short w r A m c at_ h h1 h2 n hn)
  clear h h1 h2 hn
  go_enter Tryz.func120, Tryz.ntmps120
  go_wp2_with fail
  refine HS.out.mono ?_
  rintro e w' ⟨rfl, h2⟩
  obtain rfl := h2.symm
  clear h2 HS
  go_wp2_with fail
  refine HT.out.mono ?_
  rintro e w2 ⟨rfl, k2⟩
  have K2 := Lib.hid k2
  clear k2
  go_wp2_with fail
  exact ⟨rfl, rfl, K2.out⟩
set_option maxRecDepth 100000 in
set_option maxHeartbeats 2000000 in
theorem bytes_ok (w : World) (r : Nat) (A : Option Addr) (m c at_ : Nat) (bs : List UInt8) (hb : BytesV w (.slice A m c) bs) (h : RdAt w r (.slice A m c) at_) (h1 : at_ ≤ m) (h2 : m ≤ 100000) (n : Nat) (hn : n ≤ m - at_) :
    Calls Tryz.prog 120 #[.pointer (some ⟨r, 0, none⟩), .int .i64 n] w fun e w' => ∃ A' c', e = .returned (.slice A' n c') ∧ BytesV w' (.slice A' n c') (BytesF bs at_ n) ∧ RdAt w' r (.slice A m c) (at_ + n) ∧ Keeps [r] w w' := by
  have HS := Lib.hid (shut_any w r _ at_ h)
  have HT := Lib.hid (take_ok w r A m c at_ bs hb h h1 h2 n hn)
  have hlen : (BytesF bs at_ n).length = n := bytesF_len (by obtain ⟨e, _⟩ := hb.form; omega)
  have HL := Lib.hid hlen
  have hn2 : n ≤ 100000 := by omega
  clear h h1 h2 hn hlen hb
  go_enter Tryz.func120, Tryz.ntmps120
  go_wp2_with fail
  refine HS.out.mono ?_
  rintro e w' ⟨rfl, h2⟩
  obtain rfl := h2.symm
  clear h2 HS
  go_wp2_with fail
  refine HT.out.mono ?_
  rintro e w2 ⟨v, rfl, ⟨A2, c2, rfl, hb2⟩, hr2, k2⟩
  have HC := Lib.hid (bclone_any w2 A2 n c2 _ hb2 (by omega))
  have HX := Lib.hid (And.intro hr2 k2)
  clear hb2 hr2 k2 HT
  go_wp2_with fail
  refine HC.out.mono ?_
  rintro e w3 ⟨v3, rfl, hb3, k3⟩
  obtain ⟨A3, c3, rfl, hb4⟩ := hb3
  have hb5 : BytesV w3 (.slice A3 n c3) (BytesF bs at_ n) := ⟨A3, c3, by rw [HL.out], hb4⟩
  rw [HL.out]
  have HB := Lib.hid (And.intro hb5 (And.intro (HX.out.1.keep k3 (by simp)) (HX.out.2.trans (k3.mono (by simp)))))
  clear hb4 hb5 k3
  go_wp2_with fail
  go_ret
  exact ⟨A3, c3, rfl, HB.out⟩
end Go.Proofs.YtpoheemjdieogaaGreatDoor
