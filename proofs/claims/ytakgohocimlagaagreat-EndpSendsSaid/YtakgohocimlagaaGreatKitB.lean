/-
  Byte slices: what a slice of bytes in memory reads as; the walks of bytes.Clone, slices.Clone, slices.Grow at nil, slices.Concat of two. Condition: at most 2^40 bytes.
-/
import Derived.Test.YtakgohocimlagaaGreatRows
import Derived.Test.YtakgohocimlagaaGreatKitA
import Derived.ProofKit
import Derived.Lib.Hide
import Derived.Outline
import Derived.BigQuiet
import Derived.Deep.QuietTactic
import Derived.Maps.AppendAt
import Derived.Deep.AppendLies
import Derived.Lib.AppendZerosOnto
import Derived.WalkSpells
namespace Go.Proofs.YtakgohocimlagaaGreat
open Go.RowKit
set_option linter.unusedVariables false
set_option linter.unusedSimpArgs false

def u8V (x : UInt8) : Value := .int .u8 x.toNat
/-- THE SLICE VALUE v READS AS THE BYTES l. -/
def BytesV (w : World) (v : Value) (l : List UInt8) : Prop :=
  ∃ A c, v = .slice A l.length c ∧ l.length ≤ c ∧ c ≤ maxLen ∧ (0 < l.length → ∃ g o, A = some ⟨g, o, none⟩ ∧ ∀ i x, l[i]? = some x → w.cell? ⟨g, o + i, none⟩ = some (u8V x))
/-- Block b holds no byte. -/
def NoU8 (w : World) (b : Nat) : Prop := ∀ i (x : Int), w.cell? ⟨b, i, none⟩ ≠ some (.int .u8 x)

theorem BytesV.nil (w : World) : BytesV w (.slice none 0 0) [] := ⟨none, 0, rfl, Nat.le_refl _, by simp [maxLen], fun h => by simp at h⟩
theorem BytesV.empty (w : World) {A : Option Addr} {c : Nat} (hc : c ≤ maxLen) : BytesV w (.slice A 0 c) [] := ⟨A, c, rfl, Nat.zero_le _, hc, fun h => by simp at h⟩
theorem lt_of_cell {w : World} {a : Addr} {v : Value} (h : w.cell? a = some v) : a.block < w.heap.size := by
  unfold World.cell? at h
  split at h
  · rename_i hh; exact (Array.getElem?_eq_some_iff.1 hh).1
  · cases h
theorem cell_keeps {S : List Nat} {w w' : World} (k : Keeps S w w') {a : Addr} {v : Value} (h : w.cell? a = some v) (hS : a.block ∉ S) : w'.cell? a = some v :=
  (World.cell?_of_block (w := w) (k.block _ (lt_of_cell h) hS)).trans h
theorem BytesV.keep0 {w w' : World} {v : Value} {l : List UInt8} (h : BytesV w v l) (k : Keeps [] w w') : BytesV w' v l := by
  obtain ⟨A, c, rfl, h1, h2, h3⟩ := h
  refine ⟨A, c, rfl, h1, h2, fun hp => ?_⟩
  obtain ⟨g, o, rfl, hc⟩ := h3 hp
  exact ⟨g, o, rfl, fun i x hx => cell_keeps k (hc i x hx) (by simp)⟩
theorem BytesV.keep {w w' : World} {v : Value} {l : List UInt8} {b : Nat} (h : BytesV w v l) (k : Keeps [b] w w') (hb : NoU8 w b) : BytesV w' v l := by
  obtain ⟨A, c, rfl, h1, h2, h3⟩ := h
  refine ⟨A, c, rfl, h1, h2, fun hp => ?_⟩
  obtain ⟨g, o, rfl, hc⟩ := h3 hp
  exact ⟨g, o, rfl, fun i x hx => cell_keeps k (hc i x hx) (by simp; rintro rfl; exact hb _ _ (hc i x hx))⟩
theorem BytesV.form {w : World} {A : Option Addr} {n c : Nat} {l : List UInt8} (h : BytesV w (.slice A n c) l) : n = l.length ∧ n ≤ c ∧ c ≤ maxLen := by
  obtain ⟨A', c', e, h1, h2, _⟩ := h
  injection e with e1 e2 e3
  subst e2 e3
  exact ⟨rfl, h1, h2⟩
theorem BytesV.get {w : World} {A : Option Addr} {n c : Nat} {l : List UInt8} (h : BytesV w (.slice A n c) l) (hp : 0 < n) : ∃ g o, A = some ⟨g, o, none⟩ ∧ ∀ i x, l[i]? = some x → w.cell? ⟨g, o + i, none⟩ = some (u8V x) := by
  obtain ⟨A', c', e, h1, h2, h3⟩ := h
  injection e with e1 e2 e3
  subst e1 e2 e3
  exact h3 hp
theorem BytesV.of_own {w : World} {base e n : Nat} {v : Value} {l : List UInt8} (h : w.ownsRow base e 1 v n (l.map u8V)) : BytesV w v l := by
  have hl : n = l.length := by have := h.1; simp at this; omega
  subst hl
  rcases h.2 with ⟨rfl, h0⟩ | ⟨g, cap, cur, rfl, hb, hg, hnc, hm, hs, ht⟩
  · refine ⟨none, 0, by rw [h0], by omega, by simp [maxLen], fun hp => by omega⟩
  · refine ⟨some ⟨g, 0, none⟩, cap, rfl, hnc, hm, fun hp => ⟨g, 0, rfl, fun i x hx => ?_⟩⟩
    have := h.cells (g := g) rfl i (u8V x) (by simp [hx])
    have e0 : (⟨g, 0, none⟩ : Addr).add i = ⟨g, 0 + i, none⟩ := by unfold Addr.add; split <;> simp_all
    rw [e0] at this
    exact this
/-- s[lo:hi]. -/
theorem BytesV.sub {w : World} {g o n c : Nat} {l : List UInt8} (h : BytesV w (.slice (some ⟨g, o, none⟩) n c) l) {lo hi : Nat} (h1 : lo ≤ hi) (h2 : hi ≤ n) (A : Option Addr) (c' : Nat) (hA : lo < hi → A = some ⟨g, o + lo, none⟩) (hc : hi - lo ≤ c') (hm : c' ≤ maxLen) :
    BytesV w (.slice A (hi - lo) c') ((l.drop lo).take (hi - lo)) := by
  obtain ⟨rfl, _, _⟩ := h.form
  have hlen : ((l.drop lo).take (hi - lo)).length = hi - lo := by simp; omega
  refine ⟨A, c', by rw [hlen], by omega, hm, fun hp => ?_⟩
  obtain ⟨g', o', e, hcell⟩ := h.get (by omega)
  injection e with e
  injection e with e1 e2
  subst e1 e2
  refine ⟨g, o + lo, hA (by omega), fun i x hx => ?_⟩
  rw [List.getElem?_take] at hx
  split at hx
  · rw [List.getElem?_drop] at hx
    rw [Nat.add_assoc]
    exact hcell (lo + i) x hx
  · cases hx

theorem u8_one : ∀ (l : List UInt8), ∀ u ∈ l.map u8V, u.oneCell' = true := by
  intro l u hu
  obtain ⟨x, _, rfl⟩ := List.mem_map.1 hu
  rfl

/-- append(row of the call's own, bytes...) -/
theorem run_append_bytes {P : Program} (w : World) (base t ty e : Nat) (ht : P.underlying t = some (.slice e)) (hi : (P.info? e).map (fun i => (i.zero, i.size, i.bytes)) = some (some (.int .u8 0), 1, 1))
    (v : Value) (n : Nat) (xs : List UInt8) (hown : w.ownsRow base e 1 v n (xs.map u8V)) (s : Value) (l : List UInt8) (hs : BytesV w s l) (hn : n + l.length ≤ 1099511627776) (hbase : base ≤ w.heap.size) :
    ∃ v' w', (Builtin.append_ #[t, t] ty #[v, s]).run P w = .ok v' w' ∧ w'.ownsRow base e 1 v' (n + l.length) ((xs ++ l).map u8V) ∧ w.grownBy w' v.ownBlock ∧ (v'.ownBlock = v.ownBlock ∨ v'.ownBlock = some w.heap.size) ∧ ((v' = .slice none 0 0 → v = .slice none 0 0 ∧ l = [])) := by
  obtain ⟨i0, hi0, hz0, hz1, hz2⟩ := info_parts hi
  obtain ⟨A, c, rfl, h1, h2, h3⟩ := hs
  rcases A with _ | a
  · have hl : l = [] := by
      rcases Nat.eq_zero_or_pos l.length with h0 | h0
      · exact List.eq_nil_of_length_eq_zero h0
      · obtain ⟨g, o, e, _⟩ := h3 h0; cases e
    subst hl
    refine ⟨v, w, ?_, by simpa using hown, World.grownBy.refl w _, .inl rfl, fun h => ⟨h, rfl⟩⟩
    rcases hown.2 with ⟨rfl, rfl⟩ | ⟨g, cap, cur, rfl, _, _, hnc, _⟩
    · simp [Builtin.append_, run_underlying ht, sizeOf, typeInfo, hi0, Builtin.lenOf, Builtin.firstCells]
    · simp [Builtin.append_, run_underlying ht, sizeOf, typeInfo, hi0, Builtin.lenOf, Builtin.firstCells, hnc, storeCells]
  · have hcells : ∀ j u, (l.map u8V)[j]? = some u → w.cell? (a.add j) = some u := by
      intro j u hu
      rw [List.getElem?_map] at hu
      obtain ⟨x, hx, rfl⟩ := Option.map_eq_some_iff.1 hu
      have hjl : j < l.length := (List.getElem?_eq_some_iff.1 hx).1
      obtain ⟨g, o, e, hc⟩ := h3 (by omega)
      injection e with e
      subst e
      have e0 : (⟨g, o, none⟩ : Addr).add j = ⟨g, o + j, none⟩ := by unfold Addr.add; split <;> simp_all
      rw [e0]
      exact hc j x hx
    obtain ⟨v', w', hrun, h2', h3', h4', h5'⟩ := run_append_own_at (P := P) w base t ty e i0 (.int .u8 0) 1 1 ht hi0 hz0 hz1 hz2 rfl (by omega) v n (xs.map u8V) hown a l.length c (l.map u8V) (by simp) hcells (u8_one l) (by simp only [maxLen]; omega) (by omega) hbase
    exact ⟨v', w', hrun, by simpa using h2', h3', h5', fun h => by have := h4'.1 h; exact ⟨this.1, List.eq_nil_of_length_eq_zero this.2⟩⟩

theorem wpList_append_bytes {P : Program} {w : World} {ops : Array Oper} {rest : List Oper} {o : Oper} {a : Act} {Q : Exit → Act → World → Prop} (hg : o.guard = none) (s x : Operand) (base t e : Nat)
    (ho : o.op = .call { callee := .builtin .append, args := #[s, x], argTypes := #[t, t] })
    (ht : P.underlying t = some (.slice e)) (hi : (P.info? e).map (fun i => (i.zero, i.size, i.bytes)) = some (some (.int .u8 0), 1, 1))
    (v : Value) (n : Nat) (xs : List UInt8) (hs : a.eval s = v) (hown : w.ownsRow base e 1 v n (xs.map u8V)) (y : Value) (l : List UInt8) (hx : a.eval x = y) (hy : BytesV w y l) (hn : n + l.length ≤ 1099511627776) (hbase : base ≤ w.heap.size)
    (h : ∀ v' w', w'.ownsRow base e 1 v' (n + l.length) ((xs ++ l).map u8V) → w.grownBy w' v.ownBlock → (v'.ownBlock = v.ownBlock ∨ v'.ownBlock = some w.heap.size) → (v' = .slice none 0 0 → v = .slice none 0 0 ∧ l = []) → wpList P ops Q rest (a.put o.dst v') w') : wpList P ops Q (o :: rest) a w := by
  refine wpList_plain hg fun K' hK' => ?_
  obtain ⟨v', w', hrun, h2, h3, h4, h5⟩ := run_append_bytes (P := P) w base t o.type e ht hi v n xs hown y l hy hn hbase
  unfold Oper.wp execOp
  simp only [ho, resolve, invoke, builtin, Sem.run_bind, Sem.run_pure, Result.andThen_ok, List.map_toArray, List.map_cons, List.map_nil, hs, hx, hrun]
  exact hK' _ _ (h v' w' h2 h3 h4 h5)

theorem Tryz.infoU8 : (Tryz.prog.info? 5).map (fun i => (i.zero, i.size, i.bytes)) = some (some (.int .u8 0), 1, 1) := by kernel_rfl

theorem own_empty (w : World) (e : Nat) : (w.alloc (.cells #[] e)).ownsRow w.heap.size e 1 (.slice (some ⟨w.heap.size, 0, none⟩) 0 0) 0 (([] : List UInt8).map u8V) :=
  World.ownsRow_made w #[] 0 (Nat.le_refl _) (by simp [maxLen]) rfl
theorem Keeps.own {w w1 w' : World} {row : Option Nat} (k : Keeps [] w w1) (g : w1.grownBy w' row) (hv : ∀ j, row = some j → w.heap.size ≤ j) : Keeps [] w w' :=
  ⟨g.os.trans k.os, g.tape.trans k.tape, g.output.trans k.output, Nat.le_trans k.size g.size, fun j hj _ => (g.block j (Nat.lt_of_lt_of_le hj k.size) (fun e => by have := hv j e.symm; omega)).trans (k.block j hj (by simp))⟩
theorem Keeps.behind {w w1 w2 : World} (k : Keeps [] w w1) (b : Below w.heap.size w1 w2) : Keeps [] w w2 :=
  ⟨b.os.trans k.os, b.tape.trans k.tape, b.output.trans k.output, Nat.le_trans k.size b.size, fun j hj _ => (b.block j hj).trans (k.block j hj (by simp))⟩
theorem own_slice {w : World} {B e sz n : Nat} {v : Value} {xs : List Value} (h : w.ownsRow B e sz v n xs) : ∃ A c, v = .slice A n c := by
  rcases h.2 with ⟨rfl, h0⟩ | ⟨g, cap, cur, rfl, _⟩
  · exact ⟨none, 0, by rw [h0]⟩
  · exact ⟨_, _, rfl⟩
theorem BytesV.slice {w : World} {v : Value} {l : List UInt8} (h : BytesV w v l) : ∃ A c, v = .slice A l.length c := by
  obtain ⟨A, c, e, _⟩ := h
  exact ⟨A, c, e⟩
theorem Keeps.toGrown {w w' : World} {b : Nat} (k : Keeps [b] w w') : w.grownBy w' (some b) :=
  ⟨k.os, k.tape, k.output, k.size, fun j hj hne => k.block j hj (fun hm => hne (by simp at hm; rw [hm]))⟩
theorem own_setCell {w : World} {B e sz n : Nat} {v : Value} {xs : List Value} (h : w.ownsRow B e sz v n xs) (p : Addr) (u : Value) (hp : p.block < B) : (w.setCell p u).ownsRow B e sz v n xs :=
  h.kept (Keeps.setCell w p u).toGrown (Or.inr fun e => by have := (h.lt p.block e).1; omega)
theorem own_keeps {w w' : World} {B e sz n : Nat} {v : Value} {xs : List Value} (h : w.ownsRow B e sz v n xs) (k : Keeps [] w w') : w'.ownsRow B e sz v n xs :=
  h.kept ⟨k.os, k.tape, k.output, k.size, fun j hj _ => k.block j hj (by simp)⟩ (by cases hv : v.ownBlock <;> simp) (row := none)
theorem calls_gn {P : Program} {f : FuncId} {args : Array Value} {w : World} {R : Ending → World → Prop} (h : ∀ W, W = w → Calls P f args W R) : Calls P f args w R := h w rfl
theorem wp_gn {P : Program} {c : Code} {Q : Exit → Act → World → Prop} {a : Act} {w : World} (h : ∀ W, W = w → c.wp P Q a W) : c.wp P Q a w := h w rfl
theorem lt_of_block {w : World} {k : Nat} {o : Obj} (h : w.heap[k]? = some o) : k < w.heap.size := (Array.getElem?_eq_some_iff.1 h).1
end Go.Proofs.YtakgohocimlagaaGreat
