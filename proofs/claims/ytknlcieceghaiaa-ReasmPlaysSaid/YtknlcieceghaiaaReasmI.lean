/-
  A buffer of package reasm and the document's row of places, side by side in memory: what each pair of calls leaves. No condition.
-/
import Derived.Test.YtknlcieceghaiaaReasmG
import Derived.HandedShaped
namespace Go.Proofs.Ytknlcieceghaiaa
open Go.RowKit
set_option linter.unusedVariables false
set_option linter.unusedSimpArgs false

theorem Keeps.old {S : List Nat} {w w' : World} (k : Keeps S w w') (hS : ∀ y ∈ S, w.heap.size ≤ y) : Keeps [] w w' := k.fresh fun x hx hl => by have := hS x hx; omega
theorem BuffAt.lt {w : World} {b mb : Nat} {s : BS} (h : BuffAt w b mb s) : b < w.heap.size ∧ mb < w.heap.size := ⟨lt_of_block h.head, by
  obtain ⟨es, ck, h1, _⟩ := h.map
  exact lt_of_block h1⟩
/-- both, side by side; all of it newer than w -/
structure St (w wx : World) (q b mb : Nat) (J : List Nat) (s : BS) (r : RB) (v1 v2 : Value) : Prop where
  k : Keeps [] w wx
  bu : BuffAt wx b mb s
  rb : RbAt wx q J r v1 v2
  sim : Sim s r
  ok : s.ok
  nq : q ∉ J
  nb : b ∉ J
  nm : mb ∉ J
  bq : b ≠ q
  mq : mb ≠ q
  fb : w.heap.size ≤ b ∧ w.heap.size ≤ mb ∧ w.heap.size ≤ q
  fj : ∀ y ∈ J, w.heap.size ≤ y ∧ y < wx.heap.size
theorem St.keep0 {w wx w' : World} {q b mb : Nat} {J : List Nat} {s : BS} {r : RB} {v1 v2 : Value} (h : St w wx q b mb J s r v1 v2) (k : Keeps [] wx w') : St w w' q b mb J s r v1 v2 :=
  ⟨h.k.trans k, h.bu.keep k (by simp) (by simp), h.rb.keep0 k, h.sim, h.ok, h.nq, h.nb, h.nm, h.bq, h.mq, h.fb, fun y hy => ⟨(h.fj y hy).1, Nat.lt_of_lt_of_le (h.fj y hy).2 k.size⟩⟩
/-- what is changed elsewhere -/
theorem St.chg {w wx w' : World} {q b mb : Nat} {J S : List Nat} {s : BS} {r : RB} {v1 v2 : Value} (h : St w wx q b mb J s r v1 v2) (k : Keeps S wx w') (hS : ∀ y ∈ S, y ≠ q ∧ y ≠ b ∧ y ≠ mb ∧ y ∉ J ∧ w.heap.size ≤ y) : St w w' q b mb J s r v1 v2 :=
  ⟨((h.k.mono (T := S) (by simp)).trans k).old fun y hy => (hS y hy).2.2.2.2, h.bu.keep k (fun hm => (hS b hm).2.1 rfl) (fun hm => (hS mb hm).2.2.1 rfl), h.rb.keep k (fun hm => (hS q hm).1 rfl) (fun y hy hm => (hS y hm).2.2.2.1 hy), h.sim, h.ok, h.nq, h.nb, h.nm, h.bq, h.mq, h.fb, fun y hy => ⟨(h.fj y hy).1, Nat.lt_of_lt_of_le (h.fj y hy).2 k.size⟩⟩
/-- Put of both, of the same bytes at the same number -/
theorem st_put {w wx : World} {q b mb : Nat} {J : List Nat} {s : BS} {r : RB} {v1 v2 : Value} (h : St w wx q b mb J s r v1 v2) (a : Int) (ha : U32 a) (A : Option Addr) (n c : Nat) (data : List UInt8) (hv : BytesV wx (.slice A n c) data) (hv' : ∀ w2, Keeps [b] wx w2 → BytesV w2 (.slice A n c) data) (hn : n ≤ 100000) :
    Calls Try.prog 9 #[.pointer (some ⟨b, 0, none⟩), .int .u32 a, .slice A n c] wx fun e w2 => ∃ x y : Int, e = .returned (.tuple #[.int .i64 x, .int .i64 y]) ∧ RbAt w2 q J r v1 v2 ∧
      Calls Try.prog 17 #[.pointer (some ⟨q, 0, none⟩), .int .u32 a, .slice A n c] w2 fun e' w3 => e' = .returned (.tuple #[.int .i64 x, .int .i64 y]) ∧ Keeps [b, q] wx w3 ∧ ∃ mb' J' s' r' v1' v2', St w w3 q b mb' J' s' r' v1' v2' ∧ (∀ y ∈ J', y ∈ J ∨ wx.heap.size ≤ y) ∧ (mb' = mb ∨ wx.heap.size ≤ mb') := by
  have hl := hv.form.1
  have hbl := h.bu.lt
  have hql := lt_of_block h.rb.head
  have hdl : data.length ≤ 1048576 := by omega
  refine (bput_any h.bu h.ok a ha A n c data hv (by omega)).mono fun e w2 hp => ?_
  rcases hp with ⟨hf, rfl, k2⟩ | ⟨hf, rfl, k2, mb', hb2, hm2⟩
  · refine ⟨0, 7, rfl, h.rb.keep0 k2, ?_⟩
    refine (rput_any (h.rb.keep0 k2) (h.sim.ok h.ok) h.nq a ha A n c data (hv' w2 (k2.mono (by simp))) hn).mono fun e' w3 hr => ?_
    rw [← h.sim.holes h.ok ha data hdl] at hr
    obtain ⟨rfl, hrb, k3⟩ := hr.1 hf
    have k23 : Keeps [q] wx w3 := (k2.mono (by simp)).trans k3
    refine ⟨rfl, k23.mono (by simp), mb, J, s, r, v1, v2, ⟨?_, h.bu.keep k23 (by simpa using h.bq) (by simpa using h.mq), hrb, h.sim, h.ok, h.nq, h.nb, h.nm, h.bq, h.mq, h.fb, fun y hy => ⟨(h.fj y hy).1, Nat.lt_of_lt_of_le (h.fj y hy).2 k23.size⟩⟩, fun y hy => .inl hy, .inl rfl⟩
    exact ((h.k.mono (T := [q]) (by simp)).trans k23).old (by simpa using h.fb.2.2)
  · have hrb2 : RbAt w2 q J r v1 v2 := h.rb.keep k2 (by simpa using fun e => h.bq e.symm) (fun y hy hm => h.nb (by rw [← List.mem_singleton.1 hm]; exact hy))
    refine ⟨_, 0, rfl, hrb2, ?_⟩
    refine (rput_any hrb2 (h.sim.ok h.ok) h.nq a ha A n c data (hv' w2 k2) hn).mono fun e' w3 hr => ?_
    rw [← h.sim.holes h.ok ha data hdl] at hr
    obtain ⟨cn, J', v1', v2', rfl, hc, hrb3, hJ', k3⟩ := hr.2 (by omega)
    have k23 : Keeps [b, q] wx w3 := (k2.mono (by simp)).trans (k3.mono (by simp))
    have hz2 := k2.size
    have hb2l := hb2.lt
    have hmq : mb' ≠ q := by omega
    refine ⟨by rw [h.sim.count h.ok ha data hdl hc], k23, mb', J', s.putB a data, r.put a data, v1', v2', ⟨?_, hb2.keep k3 (by simpa using h.bq) (by simpa using hmq), hrb3, h.sim.put h.ok ha data hdl, putB_ok h.ok ha data hdl, ?_, ?_, ?_, h.bq, hmq, ⟨h.fb.1, by have := h.k.size; omega, h.fb.2.2⟩, fun y hy => ⟨by have := hJ' y hy; have := h.k.size; omega, (hJ' y hy).2⟩⟩, fun y hy => .inr (by have := hJ' y hy; omega), .inr hm2⟩
    · exact ((h.k.mono (T := [b, q]) (by simp)).trans k23).old (by have := h.fb; simp; omega)
    · intro hm; have := hJ' q hm; omega
    · intro hm; have := hJ' b hm; omega
    · intro hm; have := hJ' mb' hm; omega
/-- Take of both -/
theorem st_take {w wx : World} {q b mb : Nat} {J : List Nat} {s : BS} {r : RB} {v1 v2 : Value} (h : St w wx q b mb J s r v1 v2) :
    Calls Try.prog 10 #[.pointer (some ⟨b, 0, none⟩)] wx fun e w2 => ∃ v, e = .returned v ∧ w2.ownsRow wx.heap.size 5 1 v s.out.length (s.out.map u8V) ∧ wx.heap.size ≤ w2.heap.size ∧
      ∀ w2', Keeps [] w2 w2' → Calls Try.prog 18 #[.pointer (some ⟨q, 0, none⟩)] w2' fun e' w3 => ∃ v', e' = .returned v' ∧ BytesV w3 v' s.out ∧ Keeps [q] w2' w3 ∧ q < wx.heap.size ∧ ∃ v1' v2', St w w3 q b mb J s.take r.take v1' v2' := by
  have hbl := h.bu.lt
  have hql := lt_of_block h.rb.head
  refine (btake_any h.bu h.ok).mono ?_
  rintro e w2 ⟨v, rfl, hown, hb2, k2⟩
  refine ⟨v, rfl, hown, k2.size, fun w2' kk => ?_⟩
  have hJ2 : ∀ y ∈ J, y ∉ [b, mb] := fun y hy hm => by
    rcases List.mem_cons.1 hm with e | hm
    · exact h.nb (by rw [← e]; exact hy)
    · exact h.nm (by rw [← List.mem_singleton.1 hm]; exact hy)
  have hrb2 : RbAt w2' q J r v1 v2 := (h.rb.keep k2 (by simp; exact ⟨fun e => h.bq e.symm, fun e => h.mq e.symm⟩) hJ2).keep0 kk
  refine (rtake_any hrb2 (h.sim.ok h.ok) h.nq).mono ?_
  rintro e' w3 ⟨v', v1', v2', rfl, hb3, hrb3, k3⟩
  rw [h.sim.out h.ok] at hb3
  have k23 : Keeps [b, mb, q] wx w3 := ((k2.mono (by simp)).trans (kk.mono (by simp))).trans (k3.mono (by simp))
  refine ⟨v', rfl, hb3, k3, hql, v1', v2', ⟨?_, (hb2.keep kk (by simp) (by simp)).keep k3 (by simpa using h.bq) (by simpa using h.mq), hrb3, h.sim.take h.ok, BS.take_ok h.ok, h.nq, h.nb, h.nm, h.bq, h.mq, h.fb, fun y hy => ⟨(h.fj y hy).1, Nat.lt_of_lt_of_le (h.fj y hy).2 k23.size⟩⟩⟩
  exact ((h.k.mono (T := [b, mb, q]) (by simp)).trans k23).old (by have := h.fb; simp; omega)

/-- Put and Take of a buffer that nobody asks again -/
theorem spoil {W : World} {b mb : Nat} {s : BS} (hb : BuffAt W b mb s) (ok : s.ok) (a : Int) (ha : U32 a) (A : Option Addr) (n c : Nat) (data : List UInt8) (hv : BytesV W (.slice A n c) data) (hn : n ≤ 100000) :
    Calls Try.prog 9 #[.pointer (some ⟨b, 0, none⟩), .int .u32 a, .slice A n c] W fun e w2 => ∃ x y : Int, e = .returned (.tuple #[.int .i64 x, .int .i64 y]) ∧
      Calls Try.prog 10 #[.pointer (some ⟨b, 0, none⟩)] w2 fun e' w3 => ∃ v S, e' = .returned v ∧ Keeps S W w3 ∧ ∀ y ∈ S, y = b ∨ y = mb ∨ W.heap.size ≤ y := by
  have hl := hv.form.1
  refine (bput_any hb ok a ha A n c data hv (by omega)).mono fun e w2 hp => ?_
  rcases hp with ⟨hf, rfl, k2⟩ | ⟨hf, rfl, k2, mb', hb2, hm2⟩
  · refine ⟨0, 7, rfl, (btake_any (hb.keep k2 (by simp) (by simp)) ok).mono ?_⟩
    rintro e' w3 ⟨v, rfl, _, _, k3⟩
    exact ⟨v, [b, mb], rfl, (k2.mono (by simp)).trans k3, fun y hy => by simp at hy; rcases hy with h | h; exact .inl h; exact .inr (.inl h)⟩
  · refine ⟨_, 0, rfl, (btake_any hb2 (putB_ok ok ha data (by omega))).mono ?_⟩
    rintro e' w3 ⟨v, rfl, _, _, k3⟩
    exact ⟨v, [b, mb'], rfl, (k2.mono (by simp)).trans k3, fun y hy => by simp at hy; rcases hy with h | h; exact .inl h; exact .inr (.inr (by omega))⟩
/-- a copy goes on in the buffer's place -/
theorem st_copy {w wx w' : World} {q b mb b2 mb2 : Nat} {J : List Nat} {s : BS} {r : RB} {v1 v2 : Value} (h : St w wx q b mb J s r v1 v2) (hb : BuffAt w' b2 mb2 s) (k : Keeps [] wx w') (h1 : wx.heap.size ≤ b2) (h2 : wx.heap.size ≤ mb2) : St w w' q b2 mb2 J s r v1 v2 := by
  have hk := h.keep0 k
  have hq := lt_of_block h.rb.head
  have hz := h.k.size
  exact ⟨hk.k, hb, hk.rb, h.sim, h.ok, h.nq, fun hm => by have := h.fj b2 hm; omega, fun hm => by have := h.fj mb2 hm; omega, by omega, by omega, ⟨by omega, by omega, h.fb.2.2⟩, hk.fj⟩

/-! bytes that are changed -/
/-- a row of numbers of one byte, in a block of J that no string shares -/
def CellsIn (w : World) (J : List Nat) (A : Option Addr) (n : Nat) : Prop := 0 < n → ∃ g o, A = some ⟨g, o, none⟩ ∧ g ∈ J ∧ (∃ cs t, w.heap[g]? = some (.cells cs t (0, 0))) ∧ ∀ k, k < n → ∃ z, w.cell? ⟨g, o + k, none⟩ = some (.int .u8 z)
theorem CellsIn.of_row {w : World} {B n c : Nat} {A : Option Addr} {l : List UInt8} (h : HasRow u8V 5 w B A n c l) : ∃ J : List Nat, (∀ y ∈ J, B ≤ y ∧ y < w.heap.size) ∧ CellsIn w J A n := by
  by_cases hp : 0 < n
  · obtain ⟨g, rfl, hb, hm⟩ := h.2.2.2 hp
    obtain ⟨_, _, cur, hg, _⟩ := id hm
    refine ⟨[g], fun y hy => by rw [List.mem_singleton.1 hy]; exact ⟨hb, hm.lt⟩, fun _ => ⟨g, 0, rfl, by simp, ⟨cur, _, hg⟩, fun k hk => ?_⟩⟩
    rw [Nat.zero_add]
    exact ⟨_, (hm.cell (List.getElem?_eq_getElem (by rw [h.1]; exact hk))).1⟩
  · exact ⟨[], by simp, fun h => absurd h hp⟩
theorem CellsIn.keeps {w w' : World} {J S : List Nat} {A : Option Addr} {n : Nat} (h : CellsIn w J A n) (k : Keeps S w w') (hS : ∀ y ∈ J, y ∉ S) : CellsIn w' J A n := fun hp => by
  obtain ⟨g, o, e, hg, ⟨cs, t, hb⟩, hc⟩ := h hp
  refine ⟨g, o, e, hg, ⟨cs, t, (k.block g (lt_of_block hb) (hS g hg)).trans hb⟩, fun i hi => ?_⟩
  obtain ⟨z, hz⟩ := hc i hi
  exact ⟨z, cell_keeps k hz (hS g hg)⟩
theorem CellsIn.set {w : World} {J : List Nat} {g o : Nat} {n : Nat} (h : CellsIn w J (some ⟨g, o, none⟩) n) (i : Nat) (z : Int) : CellsIn (w.setCell ⟨g, i, none⟩ (.int .u8 z)) J (some ⟨g, o, none⟩) n := fun hp => by
  obtain ⟨g1, o1, e, hg, ⟨cs, t, hb⟩, hc⟩ := h hp
  injection e with e
  injection e with e1 e2
  subst e1 e2
  exact ⟨g, o, rfl, hg, ⟨_, t, heap_setCell_self hb i _⟩, fun i hi => someInt_setCell (hc i hi) _ _⟩
theorem CellsIn.at {w : World} {J : List Nat} {A : Option Addr} {n : Nat} (h : CellsIn w J A n) {j : Nat} (hj : j < n) : ∃ g o z, A = some ⟨g, o, none⟩ ∧ g ∈ J ∧ w.cell? ⟨g, o + j, none⟩ = some (.int .u8 z) ∧ w.frozen? ⟨g, o + j, none⟩ = false := by
  obtain ⟨g, o, e, hg, ⟨cs, t, hb⟩, hc⟩ := h (by omega)
  obtain ⟨z, hz⟩ := hc j hj
  exact ⟨g, o, z, e, hg, hz, free_of_block hb _⟩
end Go.Proofs.Ytknlcieceghaiaa
