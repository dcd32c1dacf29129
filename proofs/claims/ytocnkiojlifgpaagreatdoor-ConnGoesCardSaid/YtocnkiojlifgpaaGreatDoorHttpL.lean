/-
  The walk of http.Look: at any bytes it tells what the plain law tells. Condition: the library's variables lie as listed; at most 90,000 bytes.
-/
import Derived.Test.YtocnkiojlifgpaaGreatDoorHttpG
import Derived.Defers
import Derived.Recover
import Derived.Laws.Pointers
import Derived.LaidEqlPtr
namespace Go.Proofs.YtocnkiojlifgpaaGreatDoor
open Go.RowKit Go.Lib
set_option linter.unusedVariables false
set_option linter.unusedSimpArgs false

theorem act_cast {P : Program} {c : Code} {Q : Exit → Act → World → Prop} {a a' : Act} {w : World} (h : a = a') (hc : c.wp P Q a' w) : c.wp P Q a w := h ▸ hc
theorem Tryz.asserts (v : Value) (w : World) : (Instr.typeAssert (.iface 323 v) 20 323 true).run Tryz.prog w = .ok (.tuple #[v, .bool true]) w := by
  unfold Instr.typeAssert
  simp [run_underlying Tryz.underlying323]
set_option maxRecDepth 100000 in
set_option maxHeartbeats 4000000 in
theorem look1_panic (w : World) (wb nb : Nat) (k x : Int) (s : ByteArray) (hw : w.heap[wb]? = some (.cells #[.int .i64 x] 3 (0, 0))) (hn : w.heap[nb]? = some (.cells #[.string s] 9 (0, 0))) (hwn : wb ≠ nb) :
    CallsD Tryz.prog 238 #[.pointer (some ⟨wb, 0, none⟩), .pointer (some ⟨nb, 0, none⟩)] (.panicking (ha k)) w fun e u' w' =>
      e = .returned (.tuple #[]) ∧ u' = .panicking [{ v := .iface 323 (.int .i64 k), recovered := true }] ∧ w'.cell? ⟨wb, 0, none⟩ = some (.int .i64 k) ∧ w'.cell? ⟨nb, 0, none⟩ = some (.string (bs [])) ∧ Keeps [wb, nb] w w' := by
  refine callsD_of_wpS Tryz.func238 rfl fun c₀ cs hu => ?_
  have hta := Tryz.asserts
  apply wpS_seq
  apply wpS_region
  simp [wpOpsS, go_sem, recoverD, hu, ha, Exit.thenS, Tryz.ntmps238]
  refine wpS_of_wp ?_
  refine act_cast (a' := { tmps := #[.pointer (some ⟨wb, 0, none⟩), .pointer (some ⟨nb, 0, none⟩), undef, undef, undef, .iface 323 (.int .i64 k), undef, undef, undef, undef, undef, undef], defers := [] }) (by kernel_rfl) ?_
  have w0 : w.cell? ⟨wb, 0, none⟩ = some (.int .i64 x) := cell_of_block hw 0
  have zw : w.frozen? ⟨wb, 0, none⟩ = false := free_of_block hw 0
  obtain ⟨w1, hw1⟩ : ∃ w1, w.setCell ⟨wb, 0, none⟩ (.int .i64 k) = w1 := ⟨_, rfl⟩
  have k1 : Keeps [wb] w w1 := by rw [← hw1]; exact Keeps.setCell w ⟨wb, 0, none⟩ _
  have hn1 := (k1.block nb (lt_of_block hn) (by simpa using fun h => hwn h.symm)).trans hn
  have hwk : w1.heap[wb]? = some (.cells #[.int .i64 k] 3 (0, 0)) := by rw [← hw1]; simpa using heap_setCell_self hw 0 (.int .i64 k)
  have n0 : w1.cell? ⟨nb, 0, none⟩ = some (.string s) := cell_of_block hn1 0
  have zn : w1.frozen? ⟨nb, 0, none⟩ = false := free_of_block hn1 0
  have HN := Lib.hid hn1
  have HK := Lib.hid k1
  have HWK := Lib.hid hwk
  refine Go.wp_mono (Q := fun e a' w' => e = .normal ∧ a'.defers = [] ∧ w' = w1.setCell ⟨nb, 0, none⟩ (.string (bs []))) ?_ ?post
  case post =>
    rintro e a' w' ⟨rfl, hd, rfl⟩
    have k2 : Keeps [nb] w1 (w1.setCell ⟨nb, 0, none⟩ (.string (bs []))) := Keeps.setCell w1 ⟨nb, 0, none⟩ _
    have hn2 : (w1.setCell ⟨nb, 0, none⟩ (.string (bs []))).heap[nb]? = some (.cells #[.string (bs [])] 9 (0, 0)) := by simpa using heap_setCell_self HN.out 0 (.string (bs []))
    exact ⟨hd, _, rfl, .tuple #[], by simp [results, Tryz.results238, go_sem], rfl, rfl, cell_of_block ((k2.block wb (lt_of_block HWK.out) (by simpa using hwn)).trans HWK.out) 0, cell_of_block hn2 0, (HK.out.mono (by simp)).trans (k2.mono (by simp))⟩
  clear k1 hn1 hwk hw hn
  go_wp2_with fail
  rfl
set_option maxRecDepth 100000 in
set_option maxHeartbeats 4000000 in
theorem look1_idle (w : World) (wb nb : Nat) :
    CallsD Tryz.prog 238 #[.pointer (some ⟨wb, 0, none⟩), .pointer (some ⟨nb, 0, none⟩)] .returning w fun e u' w' =>
      e = .returned (.tuple #[]) ∧ u' = .returning ∧ w' = w := by
  refine callsD_of_wpS Tryz.func238 rfl fun c₀ cs hu => ?_
  apply wpS_seq
  apply wpS_region
  simp [wpOpsS, go_sem, recoverD, hu, Exit.thenS, Tryz.ntmps238]
  refine wpS_of_wp ?_
  refine act_cast (a' := { tmps := #[.pointer (some ⟨wb, 0, none⟩), .pointer (some ⟨nb, 0, none⟩), undef, undef, undef, .nilIface, undef, undef, undef, undef, undef, undef], defers := [] }) (by kernel_rfl) ?_
  refine Go.wp_mono (Q := fun e a' w' => e = .normal ∧ a'.defers = [] ∧ w' = w) ?_ ?post
  case post =>
    rintro e a' w' ⟨rfl, hd, rfl⟩
    refine ⟨hd, .returning, ?_, .tuple #[], by simp [results, Tryz.results238, go_sem], rfl, rfl, rfl⟩
    cases c₀
    simp_all
  go_wp2_with fail
/-- string(b). -/
theorem BytesV.str0 {P : Program} {w : World} {A : Option Addr} {n c : Nat} {l : List UInt8} (h : BytesV w (.slice A n c) l) (src dst e : TypeId) (hs : P.underlying src = some (.slice e)) (he : P.underlying e = some (.int .u8)) (hd : P.underlying dst = some .string) :
    (convert src dst (.slice A n c)).run P w = .ok (.string ⟨l.toArray⟩) w := by
  rcases Nat.eq_zero_or_pos n with h0 | h0
  · have hl : l = [] := List.eq_nil_of_length_eq_zero (by have := h.form.1; omega)
    subst hl
    subst h0
    cases A with
    | none =>
      rw [run_convert_bytes_string w src dst e none 0 c hs he hd]
      simp [Conv.bytesToString]
      rfl
    | some a => exact run_convert_bytes_back w src dst e a c [] hs he hd (fun j hj => by simp at hj)
  · obtain ⟨g, o, rfl, hc⟩ := h.get h0
    have hn := h.form.1
    subst hn
    refine run_convert_bytes_back w src dst e ⟨g, o, none⟩ c l hs he hd (fun j hj => ?_)
    have e0 : (⟨g, o, none⟩ : Addr).add j = ⟨g, o + j, none⟩ := by unfold Addr.add; split <;> simp_all
    rw [e0]
    exact hc j l[j] (List.getElem?_eq_getElem hj)
theorem lookH_err {b : List UInt8} {k : Int} (h : headH b = .error k) : lookH b = (k, []) := by unfold lookH; rw [h]
theorem lookH_ok {b r : List UInt8} {x : Int × List UInt8} (h : headH b = .ok (x, r)) : lookH b = x := by unfold lookH; rw [h]
set_option maxRecDepth 100000 in
set_option maxHeartbeats 4000000 in
theorem look_core (w : World) (hw : LW w) (A : Option Addr) (n c : Nat) (b : List UInt8) (hS : ∀ w', Keeps [] w w' → (convert 42 9 (.slice A n c)).run Tryz.prog w' = .ok (.string (bs b)) w') (hn : b.length ≤ 90000) :
    Calls Tryz.prog 223 #[.slice A n c] w fun en w' => en = .returned (.tuple #[.int .i64 (lookH b).1, .string (bs (lookH b).2)]) ∧ Keeps [] w w' := by
  obtain ⟨res, hres⟩ : ∃ res, lookH b = res := ⟨_, rfl⟩
  rw [hres]
  have HRES := Lib.hid hres
  clear hres
  have hmf : ∀ (fn : Fn) (first cap : Array Value) (w : World), (Instr.makeFunc fn first cap).run Tryz.prog w = .ok (.func fn first cap) w := fun _ _ _ _ => rfl
  obtain ⟨wb, hwb⟩ : ∃ wb, w.heap.size = wb := ⟨_, rfl⟩
  obtain ⟨w1, hw1⟩ : ∃ w1, w.alloc (.cells #[.int .i64 0] 3) = w1 := ⟨_, rfl⟩
  have k1 : Keeps [] w w1 := by rw [← hw1]; exact Keeps.alloc [] w _
  have h1 : w1.heap[wb]? = some (.cells #[.int .i64 0] 3 (0, 0)) := by rw [← hw1, ← hwb]; exact (MapKept.heap_alloc w _).1
  obtain ⟨nb, hnb⟩ : ∃ nb, w1.heap.size = nb := ⟨_, rfl⟩
  obtain ⟨w2, hw2⟩ : ∃ w2, w1.alloc (.cells #[.string (bs [])] 9) = w2 := ⟨_, rfl⟩
  have hw2' : w1.alloc (.cells #[.string ⟨#[]⟩] 9) = w2 := hw2
  have k2 : Keeps [] w1 w2 := by rw [← hw2]; exact Keeps.alloc [] w1 _
  have h2 : w2.heap[nb]? = some (.cells #[.string (bs [])] 9 (0, 0)) := by rw [← hw2, ← hnb]; exact (MapKept.heap_alloc w1 _).1
  obtain ⟨r, hr⟩ : ∃ r, w2.heap.size = r := ⟨_, rfl⟩
  obtain ⟨w3, hw3⟩ : ∃ w3, w2.alloc (.cells #[.string (bs b)] 326) = w3 := ⟨_, rfl⟩
  have k3 : Keeps [] w2 w3 := by rw [← hw3]; exact Keeps.alloc [] w2 _
  have h3 : RdS w3 r b := by rw [← hw3, ← hr]; exact (MapKept.heap_alloc w2 _).1
  have l1 := lt_of_block h1
  have l2 := lt_of_block h2
  have hstr' : (convert 42 9 (.slice A n c)).run Tryz.prog w2 = .ok (.string (bs b)) w2 := hS w2 (k1.trans k2)
  have HK := Lib.hid ((k1.trans k2).trans k3)
  have H1 := Lib.hid ((k3.block wb (by omega) (by simp)).trans ((k2.block wb l1 (by simp)).trans h1))
  have H2 := Lib.hid ((k3.block nb l2 (by simp)).trans h2)
  have hlt : wb < nb ∧ nb < r := by omega
  have hwr : w.heap.size ≤ wb := by omega
  have HH := Lib.hid (head_any w3 r (fun x k => hw.keep0 (((k1.trans k2).trans k3 |>.mono (T := [r]) (by simp)).trans k |>.fresh (fun y hy hl => by simp at hy; omega))) b h3 hn)
  have HL := Lib.hid (And.intro hlt hwr)
  clear h1 h2 h3 k1 k2 k3 hw hS hw2
  go_enter_defers Tryz.func223, Tryz.ntmps223
  go_wp2_with fail
  refine HH.out.mono ?_
  rintro en w4 ⟨k4, ho⟩
  have hlt := HL.out
  have hb1 := (k4.block wb (lt_of_block H1.out) (by simp; omega)).trans H1.out
  have hb2 := (k4.block nb (lt_of_block H2.out) (by simp; omega)).trans H2.out
  have HB1 := Lib.hid hb1
  have HB2 := Lib.hid hb2
  have HK4 := Lib.hid ((HK.out.mono (T := [r]) (by simp)).trans k4)
  have c1 : w4.cell? ⟨wb, 0, none⟩ = some (.int .i64 0) := cell_of_block hb1 0
  have z1 : w4.frozen? ⟨wb, 0, none⟩ = false := free_of_block hb1 0
  clear HH k4 hb1 hb2 hstr' hw2' hw1 hw3 l1 l2
  cases hx : headH b with
  | error k =>
    rw [hx] at ho
    dsimp only at ho
    subst ho
    have hn : res = (k, []) := by rw [← HRES.out]; exact lookH_err hx
    subst hn
    clear hx c1 z1
    go_wp2_with fail
    refine leaves_cons (f := 238) (args := #[.pointer (some ⟨wb, 0, none⟩), .pointer (some ⟨nb, 0, none⟩)]) (by simp) (by simp [go_sem]) ?_
    refine (look1_panic w4 wb nb k 0 (bs []) HB1.out HB2.out (by omega)).mono ?_
    rintro e u' w5 ⟨rfl, rfl, hc, hcn, hk⟩
    refine ⟨.tuple #[.int .i64 k, .string (bs [])], by simp [results, Tryz.results223, go_sem, hc, hcn], rfl, ?_⟩
    exact ((HK4.out.mono (T := [r, wb, nb]) (by simp)).trans (hk.mono (by simp))).fresh (fun y hy hl => by simp at hy; omega)
  | ok y =>
    obtain ⟨⟨k, nm⟩, l'⟩ := y
    rw [hx] at ho
    dsimp only [pairV] at ho
    obtain ⟨rfl, -⟩ := ho
    have hn : res = (k, nm) := by rw [← HRES.out]; exact lookH_ok hx
    subst hn
    obtain ⟨w5, hw5⟩ : ∃ w5, w4.setCell ⟨wb, 0, none⟩ (.int .i64 k) = w5 := ⟨_, rfl⟩
    have k5 : Keeps [wb] w4 w5 := by rw [← hw5]; exact Keeps.setCell w4 ⟨wb, 0, none⟩ _
    have hb5 : w5.heap[wb]? = some (.cells #[.int .i64 k] 3 (0, 0)) := by rw [← hw5]; simpa using heap_setCell_self HB1.out 0 (.int .i64 k)
    have hn5 := (k5.block nb (lt_of_block HB2.out) (by simp; omega)).trans HB2.out
    have c2 : w5.cell? ⟨nb, 0, none⟩ = some (.string (bs [])) := cell_of_block hn5 0
    have z2 : w5.frozen? ⟨nb, 0, none⟩ = false := free_of_block hn5 0
    have k6 : Keeps [nb] w5 (w5.setCell ⟨nb, 0, none⟩ (.string (bs nm))) := Keeps.setCell w5 ⟨nb, 0, none⟩ _
    have hn6 : (w5.setCell ⟨nb, 0, none⟩ (.string (bs nm))).heap[nb]? = some (.cells #[.string (bs nm)] 9 (0, 0)) := by simpa using heap_setCell_self hn5 0 (.string (bs nm))
    have hb6 := (k6.block wb (lt_of_block hb5) (by simp; omega)).trans hb5
    have C6 := Lib.hid (And.intro (cell_of_block hb6 0) (cell_of_block hn6 0))
    have HK6 := Lib.hid ((k5.mono (T := [wb, nb]) (by simp)).trans (k6.mono (T := [wb, nb]) (by simp)))
    clear hx k5 hb5 hn5 k6 hn6 hb6
    go_wp2_with fail
    refine leaves_cons (f := 238) (args := #[.pointer (some ⟨wb, 0, none⟩), .pointer (some ⟨nb, 0, none⟩)]) (by simp) (by simp [go_sem]) ?_
    refine (look1_idle _ wb nb).mono ?_
    rintro e u' w7 ⟨rfl, rfl, rfl⟩
    have hc := C6.out.1
    have hcn := C6.out.2
    refine ⟨.tuple #[.int .i64 k, .string (bs nm)], by simp [results, Tryz.results223, go_sem, hc, hcn], rfl, ?_⟩
    exact ((HK4.out.mono (T := [r, wb, nb]) (by simp)).trans (HK6.out.mono (by simp))).fresh (fun y hy hl => by simp at hy; omega)
theorem look_any (w : World) (hw : LW w) (A : Option Addr) (n c : Nat) (b : List UInt8) (hb : BytesV w (.slice A n c) b) (hn : n ≤ 90000) :
    Calls Tryz.prog 223 #[.slice A n c] w fun en w' => en = .returned (.tuple #[.int .i64 (lookH b).1, .string (bs (lookH b).2)]) ∧ Keeps [] w w' :=
  look_core w hw A n c b (fun w' k => (hb.keep0 k).str0 42 9 5 Tryz.underlying42 Tryz.underlying5 Tryz.underlying9) (by rw [← hb.form.1]; exact hn)
end Go.Proofs.YtocnkiojlifgpaaGreatDoor
