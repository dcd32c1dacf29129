/-
  The law HttpRequests: the walk, over its arguments as they come in. Condition: the library's variables lie as listed; no field's name or value is longer than 2^47 bytes.
-/
import Derived.Test.YtjppfdilfcokeaaDoorHttpRx
import Derived.Test.YtjppfdilfcokeaaDoorHttpZ
import Derived.Test.YtjppfdilfcokeaaDoorHttpX
import Derived.Deep.LoopGhost
namespace Go.Proofs.YtjppfdilfcokeaaDoor
open Go.RowKit Go.Lib
set_option linter.unusedVariables false
set_option linter.unusedSimpArgs false

theorem FieldsV.cut2 {w : World} {A : Option Addr} {n c m : Nat} {l : List FL} (h : FieldsV w A n c l) (hm : m ≤ n) : FieldsV w A m c (l.take m) := by
  obtain ⟨h1, h2, h3⟩ := h
  refine ⟨by rw [List.length_take]; omega, by omega, fun hp => ?_⟩
  obtain ⟨g, o, e, hc⟩ := h3 (by omega)
  refine ⟨g, o, e, fun i f hf => hc i f ?_⟩
  rw [List.getElem?_take] at hf
  split at hf
  · exact hf
  · cases hf
set_option maxRecDepth 1000000 in
set_option maxHeartbeats 8000000 in
theorem requests_walk (w : World) (hw : LW w) (host : List UInt8) (A1 : Option Addr) (n1 c1 : Nat) (l1 : List FL) (hb1 : FieldsV w A1 n1 c1 l1) (hz : ∀ f ∈ l1, f.1.length ≤ 140737488355328 ∧ f.2.length ≤ 140737488355328) :
    Calls Tryd.prog 4 #[.string (bs host), .slice A1 n1 c1] w fun e w' => e = .returned (.bool true) ∧ Keeps [] w w' := by
  obtain ⟨m1, hm1⟩ : ∃ m, min n1 101 = m := ⟨_, rfl⟩
  have p1 := hb1.2.1
  have q1 : min (n1 : Int) 101 = (m1 : Int) := by omega
  have r1 : (m1 : Int) ≤ (c1 : Int) := by omega
  have t1 : (0 : Int) ≤ (m1 : Int) := by omega
  obtain ⟨fs, hfs⟩ : ∃ x, l1.take m1 = x := ⟨_, rfl⟩
  have B1 := Lib.hid (show FieldsV w A1 m1 c1 fs by rw [← hfs]; exact hb1.cut2 (by omega))
  have HZ := Lib.hid (show ∀ f ∈ fs, f.1.length ≤ 140737488355328 ∧ f.2.length ≤ 140737488355328 from fun f hf => hz f (by rw [← hfs] at hf; exact List.mem_of_mem_take hf))
  have HZ2 := Lib.hid (show ∀ f ∈ fs, f.1.length ≤ 9223372036854775807 ∧ f.2.length ≤ 9223372036854775807 from fun f hf => by
    have := HZ.out f hf
    omega)
  have hl1 : m1 = fs.length := B1.out.1
  have hk1 : m1 ≤ 101 := by omega
  have HL := Lib.hid (And.intro hl1 hk1)
  have HW := Lib.hid hw
  clear hb1 hm1 p1 hfs hw hl1 hk1 hz
  go_enter Tryd.func4, Tryd.ntmps4
  go_wp2_with fail
  clear q1 r1 t1
  go_loopg [5, 6] fs.length (fun g mv iv wx => ∃ pre post : List FL, fs = pre ++ post ∧ g = post.length ∧ OwnF wx w.heap.size mv pre ∧ iv = .int .i64 pre.length ∧ Keeps [] w wx)
  case atStart => exact ⟨[], fs, rfl, rfl, OwnF.nil _ _, rfl, Keeps.refl _ _⟩
  case round =>
    obtain ⟨pre, post, hsp, hg, ho, rfl, hk⟩ := hrel
    subst hg
    have hll : fs.length = pre.length + post.length := by rw [hsp]; simp
    have HK := Lib.hid hk
    have HO := Lib.hid ho
    cases post with
    | nil =>
      have hlt : ¬ (pre.length : Int) < (m1 : Int) := by have := HL.out.1; simp at hll; omega
      have hpre : pre = fs := by rw [hsp]; simp
      subst hpre
      clear hk ho hsp hll
      obtain ⟨AF, cF, rfl, hFV⟩ := HO.out.fields
      have hpl : pre.length ≤ 101 := by have := HL.out; omega
      have HRQ := Lib.hid (request_any wr (HW.out.keep0 HK.out) host AF pre.length cF pre hFV (by omega) HZ2.out (fun f hf => eqHost_any (HZ2.out f hf).1))
      have HRR := Lib.hid (fun (w1 : World) (k : Keeps [] w w1) => rrequest_any w1 host A1 m1 c1 pre (B1.out.keep0 k) HL.out.2 HZ.out)
      clear hFV hpl
      obtain ⟨R, hR⟩ : ∃ R, reqR host pre = R := ⟨_, rfl⟩
      rw [hR] at HRQ HRR
      obtain ⟨RB, RE⟩ := R
      dsimp only at HRQ HRR
      clear hR
      go_wp2_with fail
      refine HRQ.out.mono ?_
      rintro e w3 ⟨v9, rfl, hbv, k3⟩
      obtain ⟨A9, c9, rfl⟩ := hbv.slice
      have HB9 := Lib.hid hbv
      have HK3 := Lib.hid (HK.out.trans k3)
      clear hbv k3 HRQ
      go_wp2_with fail
      refine (HRR.out w3 HK3.out).mono ?_
      rintro e w4 ⟨v8, rfl, hbv, k4⟩
      obtain ⟨A8, c8, rfl⟩ := hbv.slice
      obtain ⟨XS, hXS⟩ : ∃ XS : ByteArray, (⟨RB.toArray⟩ : ByteArray) = XS := ⟨_, rfl⟩
      have hc8 := hbv.str0 22 9 5 Tryd.underlying22 Tryd.underlying5 Tryd.underlying9
      have hc9 := (HB9.out.keep0 k4).str0 22 9 5 Tryd.underlying22 Tryd.underlying5 Tryd.underlying9
      rw [hXS] at hc8 hc9
      have HK4 := Lib.hid (HK3.out.trans k4)
      have HWK := Lib.hid (wakes_any w4 (HW.out.keep0 (HK3.out.trans k4)))
      clear hbv k4 HRR hXS
      go_wp2_with fail
      refine HWK.out.mono ?_
      rintro e w5 ⟨rfl, k5⟩
      have HK5 := Lib.hid (HK4.out.trans k5)
      clear k5 HWK
      go_wp2_with fail
      go_ret
      exact ⟨rfl, HK5.out⟩
    | cons f post =>
      have hlt : (pre.length : Int) < (m1 : Int) := by have := HL.out.1; simp at hll; omega
      have hlt0 : pre.length < m1 := by omega
      have hp8 : pre.length < 101 := by have := HL.out; omega
      have HSP := Lib.hid hsp
      obtain ⟨g, o, hA, hc⟩ := B1.out.2.2 (by omega)
      subst hA
      obtain ⟨hc1, hc2⟩ := hc pre.length f (by rw [hsp]; simp)
      have f1 := cell_keeps hk hc1 (by simp)
      have f2 := cell_keeps hk hc2 (by simp)
      clear hc hc1 hc2 hsp hll hk ho
      obtain ⟨fa, fb⟩ := f
      dsimp only at f1 f2
      obtain ⟨ib, hib⟩ : ∃ ib, wr.heap.size = ib := ⟨_, rfl⟩
      obtain ⟨w2, hw2⟩ : ∃ w2, wr.alloc (.cells #[.string (bs fa), .string (bs fb)] 32) = w2 := ⟨_, rfl⟩
      have k2 : Keeps [] wr w2 := by rw [← hw2]; exact Keeps.alloc [] wr _
      have hb2 : w2.heap[ib]? = some (.cells #[.string (bs fa), .string (bs fb)] 32 (0, 0)) := by rw [← hw2, ← hib]; exact (MapKept.heap_alloc wr _).1
      have HD := Lib.hid (show w2.cell? ⟨ib, 0, none⟩ = some (.string (bs fa)) ∧ w2.cell? ⟨ib, 1, none⟩ = some (.string (bs fb)) from ⟨cell_of_block hb2 0, cell_of_block hb2 1⟩)
      have HO2 := Lib.hid (HO.out.keep0 k2)
      have HK2 := Lib.hid (HK.out.trans k2)
      clear k2 hb2
      go_wp2_with (at_builtin; refine wpList_append_F rfl _ _ 30 rfl Tryd.underlying30 _ pre rfl HO2.out ⟨ib, 0, none⟩ 1 (fa, fb) rfl HD.out.1 (by simpa [Addr.add] using HD.out.2) (by omega) HK2.out ?_; intro v2 w3 ho3 hk3)
      go_roundg post.length
      case measure => simp
      case rel => exact ⟨pre ++ [(fa, fb)], post, by rw [HSP.out]; simp, rfl, ho3, by simp, hk3⟩
end Go.Proofs.YtjppfdilfcokeaaDoor
