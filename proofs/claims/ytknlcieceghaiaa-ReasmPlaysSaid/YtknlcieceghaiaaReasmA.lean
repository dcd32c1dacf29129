/-
  Rows of one-cell values in memory: of which blocks they lie in, read, cut, appended, stored into. No program's own facts but the kinds' sizes.
-/
import Derived.Test.YtknlcieceghaiaaReasmR
namespace Go.Proofs.Ytknlcieceghaiaa
open Go.RowKit
set_option linter.unusedVariables false
set_option linter.unusedSimpArgs false

/-- the slice value v reads as the row l, in a block of J -/
def RowJ {α : Type} (enc : α → Value) (w : World) (J : List Nat) (v : Value) (l : List α) : Prop :=
  ∃ A c, v = .slice A l.length c ∧ l.length ≤ c ∧ c ≤ maxLen ∧ (0 < l.length → ∃ g o, A = some ⟨g, o, none⟩ ∧ g ∈ J ∧ ∀ i x, l[i]? = some x → w.cell? ⟨g, o + i, none⟩ = some (enc x))
theorem RowJ.keep {α : Type} {enc : α → Value} {w w' : World} {J S : List Nat} {v : Value} {l : List α} (h : RowJ enc w J v l) (k : Keeps S w w') (hS : ∀ y ∈ J, y ∉ S) : RowJ enc w' J v l := by
  obtain ⟨A, c, rfl, h1, h2, h3⟩ := h
  refine ⟨A, c, rfl, h1, h2, fun hp => ?_⟩
  obtain ⟨g, o, rfl, hg, hc⟩ := h3 hp
  exact ⟨g, o, rfl, hg, fun i x hx => cell_keeps k (hc i x hx) (hS g hg)⟩
theorem RowJ.keep0 {α : Type} {enc : α → Value} {w w' : World} {J : List Nat} {v : Value} {l : List α} (h : RowJ enc w J v l) (k : Keeps [] w w') : RowJ enc w' J v l := h.keep k (by simp)
theorem RowJ.mono {α : Type} {enc : α → Value} {w : World} {J J' : List Nat} {v : Value} {l : List α} (h : RowJ enc w J v l) (hJ : ∀ y ∈ J, y ∈ J') : RowJ enc w J' v l := by
  obtain ⟨A, c, rfl, h1, h2, h3⟩ := h
  refine ⟨A, c, rfl, h1, h2, fun hp => ?_⟩
  obtain ⟨g, o, rfl, hg, hc⟩ := h3 hp
  exact ⟨g, o, rfl, hJ g hg, hc⟩
theorem RowJ.bytes {w : World} {J : List Nat} {v : Value} {l : List UInt8} (h : RowJ u8V w J v l) : BytesV w v l := by
  obtain ⟨A, c, rfl, h1, h2, h3⟩ := h
  refine ⟨A, c, rfl, h1, h2, fun hp => ?_⟩
  obtain ⟨g, o, rfl, hg, hc⟩ := h3 hp
  exact ⟨g, o, rfl, hc⟩
theorem RowJ.form {α : Type} {enc : α → Value} {w : World} {J : List Nat} {A : Option Addr} {n c : Nat} {l : List α} (h : RowJ enc w J (.slice A n c) l) : n = l.length ∧ n ≤ c ∧ c ≤ maxLen := by
  obtain ⟨A', c', e, h1, h2, _⟩ := h
  injection e with e1 e2 e3
  subst e2 e3
  exact ⟨rfl, h1, h2⟩
theorem RowJ.get {α : Type} {enc : α → Value} {w : World} {J : List Nat} {A : Option Addr} {n c : Nat} {l : List α} (h : RowJ enc w J (.slice A n c) l) (hp : 0 < n) : ∃ g o, A = some ⟨g, o, none⟩ ∧ g ∈ J ∧ ∀ i x, l[i]? = some x → w.cell? ⟨g, o + i, none⟩ = some (enc x) := by
  obtain ⟨A', c', e, h1, h2, h3⟩ := h
  injection e with e1 e2 e3
  subst e1 e2 e3
  exact h3 hp
theorem RowJ.cut {α : Type} {enc : α → Value} {w : World} {J : List Nat} {A : Option Addr} {n c m : Nat} {l : List α} (h : RowJ enc w J (.slice A n c) l) (hm : m ≤ n) : RowJ enc w J (.slice A m c) (l.take m) := by
  obtain ⟨hn, hc, hx⟩ := h.form
  have hl : (l.take m).length = m := by rw [List.length_take]; omega
  refine ⟨A, c, by rw [hl], by omega, hx, fun hp => ?_⟩
  obtain ⟨g, o, e, hg, hcell⟩ := h.get (by omega)
  refine ⟨g, o, e, hg, fun i x hx => hcell i x ?_⟩
  rw [List.getElem?_take] at hx
  split at hx
  · exact hx
  · cases hx
/-- s[k:] -/
theorem RowJ.fromX {α : Type} {enc : α → Value} {w : World} {J : List Nat} {A X : Option Addr} {n c k : Nat} {l : List α} (h : RowJ enc w J (.slice A n c) l) (hk : k ≤ n) (hX : (if c = k then A else Option.map (fun x : Addr => x.add k) A) = X) : RowJ enc w J (.slice X (n - k) (c - k)) (l.drop k) := by
  obtain ⟨hn, hc, hm⟩ := h.form
  have hl : (l.drop k).length = n - k := by rw [List.length_drop]; omega
  refine ⟨X, c - k, by rw [hl], by omega, by omega, fun hp => ?_⟩
  obtain ⟨g, o, rfl, hg, hcell⟩ := h.get (by omega)
  rw [if_neg (by omega)] at hX
  refine ⟨g, o + k, by rw [← hX]; simp only [Option.map_some]; congr 1; unfold Addr.add; split <;> simp_all, hg, fun i x hx => ?_⟩
  rw [List.getElem?_drop] at hx
  rw [Nat.add_assoc]
  exact hcell (k + i) x hx
/-- a row that may be stored into: the first cells of a whole block -/
def RowM {α : Type} (enc : α → Value) (e : TypeId) (w : World) (g cap : Nat) (l : List α) : Prop := l.length ≤ cap ∧ cap ≤ maxLen ∧ ∃ cur, w.heap[g]? = some (.cells cur e (0, 0)) ∧ cur.size = cap ∧ cur.toList.take l.length = l.map enc
theorem RowM.lt {α : Type} {enc : α → Value} {e : TypeId} {w : World} {g cap : Nat} {l : List α} (h : RowM enc e w g cap l) : g < w.heap.size := by
  obtain ⟨_, _, cur, hb, _⟩ := h
  exact lt_of_block hb
theorem RowM.cell {α : Type} {enc : α → Value} {e : TypeId} {w : World} {g cap : Nat} {l : List α} (h : RowM enc e w g cap l) {i : Nat} {x : α} (hx : l[i]? = some x) : w.cell? ⟨g, i, none⟩ = some (enc x) ∧ w.frozen? ⟨g, i, none⟩ = false := by
  obtain ⟨_, _, cur, hb, hs, ht⟩ := h
  refine ⟨?_, free_of_block hb i⟩
  rw [cell_of_block hb i]
  have hi : i < l.length := (List.getElem?_eq_some_iff.1 hx).1
  have h1 : (cur.toList.take l.length)[i]? = (l.map enc)[i]? := by rw [ht]
  rw [List.getElem?_take, if_pos hi, List.getElem?_map, hx, Array.getElem?_toList] at h1
  exact h1
theorem RowM.keep {α : Type} {enc : α → Value} {e : TypeId} {w w' : World} {g cap : Nat} {l : List α} {S : List Nat} (h : RowM enc e w g cap l) (k : Keeps S w w') (hS : g ∉ S) : RowM enc e w' g cap l := by
  obtain ⟨h1, h2, cur, hb, hs, ht⟩ := h
  exact ⟨h1, h2, cur, (k.block g (lt_of_block hb) hS).trans hb, hs, ht⟩
theorem RowM.set {α : Type} {enc : α → Value} {e : TypeId} {w : World} {g cap : Nat} {l : List α} (h : RowM enc e w g cap l) (i : Nat) (x : α) : RowM enc e (w.setCell ⟨g, i, none⟩ (enc x)) g cap (l.set i x) := by
  obtain ⟨h1, h2, cur, hb, hs, ht⟩ := h
  refine ⟨by rw [List.length_set]; exact h1, h2, _, heap_setCell_self hb i (enc x), by simpa using hs, ?_⟩
  rw [List.length_set, Array.toList_setIfInBounds, List.take_set, ht, List.map_set]
theorem RowM.row {α : Type} {enc : α → Value} {e : TypeId} {w : World} {g cap : Nat} {l : List α} (h : RowM enc e w g cap l) : RowJ enc w [g] (.slice (some ⟨g, 0, none⟩) l.length cap) l :=
  ⟨_, cap, rfl, h.1, h.2.1, fun _ => ⟨g, 0, rfl, by simp, fun i x hx => by rw [Nat.zero_add]; exact (h.cell hx).1⟩⟩
/-- append(nil, row...): nil, or a new row -/
theorem RowM.of_own {α : Type} {enc : α → Value} {e base n : Nat} {w : World} {v : Value} {l : List α} (h : w.ownsRow base e 1 v n (l.map enc)) : (v = .slice none 0 0 ∧ l = []) ∨ ∃ g cap, v = .slice (some ⟨g, 0, none⟩) l.length cap ∧ base ≤ g ∧ RowM enc e w g cap l := by
  have hl : n = l.length := by have := h.1; simp at this; omega
  subst hl
  rcases h.2 with ⟨rfl, h0⟩ | ⟨g, cap, cur, rfl, hb, hg, hnc, hm, hs, ht⟩
  · exact .inl ⟨rfl, List.eq_nil_of_length_eq_zero h0⟩
  · exact .inr ⟨g, cap, rfl, hb, hnc, hm, cur, hg, by omega, by simpa using ht⟩
theorem one_map {α : Type} {enc : α → Value} (h1 : ∀ x, (enc x).oneCell' = true) (l : List α) : ∀ u ∈ l.map enc, u.oneCell' = true := by
  intro u hu
  obtain ⟨x, _, rfl⟩ := List.mem_map.1 hu
  exact h1 x
/-- append(row of the call's own, row...) -/
theorem run_append_row {α : Type} {enc : α → Value} {P : Program} (w : World) (base t ty e : Nat) (z : Value) (ht : P.underlying t = some (.slice e)) (hi : (P.info? e).map (fun i => (i.zero, i.size, i.bytes)) = some (some z, 1, 1)) (hzc : z.cells.size = 1) (henc : ∀ x, (enc x).oneCell' = true)
    (v : Value) (n : Nat) (xs : List α) (hown : w.ownsRow base e 1 v n (xs.map enc)) (s : Value) (J : List Nat) (l : List α) (hs : RowJ enc w J s l) (hn : n + l.length ≤ 1099511627776) (hbase : base ≤ w.heap.size) :
    ∃ v' w', (Builtin.append_ #[t, t] ty #[v, s]).run P w = .ok v' w' ∧ w'.ownsRow base e 1 v' (n + l.length) ((xs ++ l).map enc) ∧ w.grownBy w' v.ownBlock := by
  obtain ⟨i0, hi0, hz0, hz1, hz2⟩ := info_parts hi
  obtain ⟨A, c, rfl, h1, h2, h3⟩ := hs
  rcases A with _ | a
  · have hl : l = [] := by
      rcases Nat.eq_zero_or_pos l.length with h0 | h0
      · exact List.eq_nil_of_length_eq_zero h0
      · obtain ⟨g, o, e, _⟩ := h3 h0; cases e
    subst hl
    refine ⟨v, w, ?_, by simpa using hown, World.grownBy.refl w _⟩
    rcases hown.2 with ⟨rfl, rfl⟩ | ⟨g, cap, cur, rfl, _, _, hnc, _⟩
    · simp [Builtin.append_, run_underlying ht, sizeOf, typeInfo, hi0, Builtin.lenOf, Builtin.firstCells]
    · simp [Builtin.append_, run_underlying ht, sizeOf, typeInfo, hi0, Builtin.lenOf, Builtin.firstCells, hnc, storeCells]
  · have hcells : ∀ j u, (l.map enc)[j]? = some u → w.cell? (a.add j) = some u := by
      intro j u hu
      rw [List.getElem?_map] at hu
      obtain ⟨x, hx, rfl⟩ := Option.map_eq_some_iff.1 hu
      have hjl : j < l.length := (List.getElem?_eq_some_iff.1 hx).1
      obtain ⟨g, o, e, hg, hc⟩ := h3 (by omega)
      injection e with e
      subst e
      have e0 : (⟨g, o, none⟩ : Addr).add j = ⟨g, o + j, none⟩ := by unfold Addr.add; split <;> simp_all
      rw [e0]
      exact hc j x hx
    obtain ⟨v', w', hrun, h2', h3', h4', h5'⟩ := run_append_own_at (P := P) w base t ty e i0 z 1 1 ht hi0 hz0 hz1 hz2 hzc (by omega) v n (xs.map enc) hown a l.length c (l.map enc) (by simp) hcells (one_map henc l) (by simp only [maxLen]; omega) (by omega) hbase
    exact ⟨v', w', hrun, by simpa using h2', h3'⟩
theorem wpList_append_row {α : Type} {enc : α → Value} {P : Program} {w : World} {ops : Array Oper} {rest : List Oper} {o : Oper} {a : Act} {Q : Exit → Act → World → Prop} (hg : o.guard = none) (s x : Operand) (base t e : Nat) (z : Value)
    (ho : o.op = .call { callee := .builtin .append, args := #[s, x], argTypes := #[t, t] })
    (ht : P.underlying t = some (.slice e)) (hi : (P.info? e).map (fun i => (i.zero, i.size, i.bytes)) = some (some z, 1, 1)) (hzc : z.cells.size = 1) (henc : ∀ x, (enc x).oneCell' = true)
    (v : Value) (n : Nat) (xs : List α) (hs : a.eval s = v) (hown : w.ownsRow base e 1 v n (xs.map enc)) (y : Value) (J : List Nat) (l : List α) (hx : a.eval x = y) (hy : RowJ enc w J y l) (hn : n + l.length ≤ 1099511627776) (hbase : base ≤ w.heap.size)
    (h : ∀ v' w', w'.ownsRow base e 1 v' (n + l.length) ((xs ++ l).map enc) → w.grownBy w' v.ownBlock → wpList P ops Q rest (a.put o.dst v') w') : wpList P ops Q (o :: rest) a w := by
  refine wpList_plain hg fun K' hK' => ?_
  obtain ⟨v', w', hrun, h2, h3⟩ := run_append_row (P := P) w base t o.type e z ht hi hzc henc v n xs hown y J l hy hn hbase
  unfold Oper.wp execOp
  simp only [ho, resolve, invoke, builtin, Sem.run_bind, Sem.run_pure, Result.andThen_ok, List.map_toArray, List.map_cons, List.map_nil, hs, hx, hrun]
  exact hK' _ _ (h v' w' h2 h3)
/-- append(nil, row...) -/
theorem app_row {α : Type} {enc : α → Value} {P : Program} {w : World} {ops : Array Oper} {rest : List Oper} {o : Oper} {a : Act} {Q : Exit → Act → World → Prop} (hg : o.guard = none) (s x : Operand) (t e : Nat) (z : Value)
    (ho : o.op = .call { callee := .builtin .append, args := #[s, x], argTypes := #[t, t] })
    (ht : P.underlying t = some (.slice e)) (hi : (P.info? e).map (fun i => (i.zero, i.size, i.bytes)) = some (some z, 1, 1)) (hzc : z.cells.size = 1) (henc : ∀ x, (enc x).oneCell' = true)
    (hs : a.eval s = .slice none 0 0) (y : Value) (J : List Nat) (l : List α) (hx : a.eval x = y) (hy : RowJ enc w J y l) (hn : l.length ≤ 1099511627776)
    (h : ∀ v' w', ((v' = .slice none 0 0 ∧ l = []) ∨ ∃ g cap, v' = .slice (some ⟨g, 0, none⟩) l.length cap ∧ w.heap.size ≤ g ∧ RowM enc e w' g cap l) → Keeps [] w w' → wpList P ops Q rest (a.put o.dst v') w') : wpList P ops Q (o :: rest) a w :=
  wpList_append_row hg s x w.heap.size t e z ho ht hi hzc henc _ 0 [] hs (World.ownsRow_nil _ _ _ _) y J l hx hy (by omega) (Nat.le_refl _) fun v' w' h1 h2 => h v' w' (RowM.of_own (by simpa using h1)) ⟨h2.os, h2.tape, h2.output, h2.size, fun j hj _ => h2.block j hj (by simp [Value.ownBlock])⟩
end Go.Proofs.Ytknlcieceghaiaa
