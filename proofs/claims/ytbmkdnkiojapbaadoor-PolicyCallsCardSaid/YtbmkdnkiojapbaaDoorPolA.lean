/-
  Rules appended to a row of the call's own. No condition but that the rows are not long.
-/
import Derived.Test.YtbmkdnkiojapbaaDoorPolR
import Derived.Maps.AppendAt
namespace Go.Proofs.YtbmkdnkiojapbaaDoor
open Go.RowKit Go.Lib
set_option linter.unusedVariables false
set_option linter.unusedSimpArgs false

/-- a rule's cells; a row's -/
def cellsR (x : PR) : List Value := [.string x.name, .bool x.deny, .int .u32 x.addr, .int .u16 x.port]
def rowR (l : List PR) : List Value := l.flatMap cellsR
theorem rowR_len (l : List PR) : (rowR l).length = l.length * 4 := by
  induction l with
  | nil => rfl
  | cons a t ih => unfold rowR at ih ⊢; rw [List.flatMap_cons, List.length_append, ih, List.length_cons]; simp [cellsR]; omega
theorem rowR_at : ∀ (l : List PR) (i : Nat) {x : PR}, l[i]? = some x → ∀ j, j < 4 → (rowR l)[i * 4 + j]? = (cellsR x)[j]?
  | [], i, x, h, j, hj => by simp at h
  | a :: t, 0, x, h, j, hj => by
    simp at h
    subst h
    unfold rowR
    rw [List.flatMap_cons, List.getElem?_append_left (by simp [cellsR]; omega)]
    simp
  | a :: t, i + 1, x, h, j, hj => by
    have h' : t[i]? = some x := by simpa using h
    have ih := rowR_at t i h' j hj
    unfold rowR at ih ⊢
    rw [List.flatMap_cons, List.getElem?_append_right (by simp [cellsR]; omega)]
    have e : (i + 1) * 4 + j - (cellsR a).length = i * 4 + j := by simp [cellsR]; omega
    rw [e]; exact ih
theorem rowR_get {l : List PR} {k : Nat} {u : Value} (h : (rowR l)[k]? = some u) : ∃ x, l[k / 4]? = some x ∧ (cellsR x)[k % 4]? = some u := by
  have hk := (List.getElem?_eq_some_iff.1 h).1
  rw [rowR_len] at hk
  have hi : k / 4 < l.length := by omega
  refine ⟨l[k / 4], List.getElem?_eq_getElem hi, ?_⟩
  have := rowR_at l (k / 4) (List.getElem?_eq_getElem hi) (k % 4) (by omega)
  rw [← this, show k / 4 * 4 + k % 4 = k by omega]
  exact h
theorem rowR_one (l : List PR) : ∀ u ∈ rowR l, u.oneCell' = true := by
  intro u hu
  unfold rowR at hu
  obtain ⟨x, _, h⟩ := List.mem_flatMap.1 hu
  simp only [cellsR, List.mem_cons, List.not_mem_nil, or_false] at h
  rcases h with rfl | rfl | rfl | rfl <;> rfl
theorem rowR_append (a b : List PR) : rowR (a ++ b) = rowR a ++ rowR b := by unfold rowR; rw [List.flatMap_append]
def OwnR (w : World) (base : Nat) (v : Value) (l : List PR) : Prop := w.ownsRow base 35 4 v l.length (rowR l)
theorem addr_at (g j : Nat) : (⟨g, 0, none⟩ : Addr).add j = ⟨g, j, none⟩ := by unfold Addr.add; split <;> simp_all
theorem addr_add (g o j : Nat) : (⟨g, o, none⟩ : Addr).add j = ⟨g, o + j, none⟩ := by unfold Addr.add; split <;> simp_all
theorem OwnR.rules {w : World} {base : Nat} {v : Value} {l : List PR} (h : OwnR w base v l) : ∃ A c, v = .slice A l.length c ∧ RulesAt w A l ∧ l.length ≤ c ∧ c ≤ maxLen := by
  rcases h.2 with ⟨rfl, h0⟩ | ⟨g, cap, cur, rfl, hb, hg, hnc, hm, hsz, ht⟩
  · have : l = [] := List.eq_nil_of_length_eq_zero h0
    subst this
    exact ⟨none, 0, rfl, .inl rfl, by simp, by simp [maxLen]⟩
  · refine ⟨_, cap, rfl, .inr ⟨g, 0, rfl, fun i x hx => ?_⟩, hnc, hm⟩
    have key : ∀ j u, (cellsR x)[j]? = some u → w.cell? ⟨g, 0 + i * 4 + j, none⟩ = some u := fun j u hu => by
      have hj : j < 4 := by have := (List.getElem?_eq_some_iff.1 hu).1; simpa [cellsR] using this
      have := World.ownsRow.cells h (g := g) rfl (i * 4 + j) u (by rw [rowR_at l i hx j hj]; exact hu)
      rw [addr_at] at this
      rw [Nat.zero_add]; exact this
    exact ⟨key 0 _ rfl, key 1 _ rfl, key 2 _ rfl, key 3 _ rfl⟩
theorem OwnR.nil (w : World) (base : Nat) : OwnR w base (.slice none 0 0) [] := World.ownsRow_nil _ _ _ _
theorem OwnR.alloc {w : World} {base : Nat} {v : Value} {l : List PR} (h : OwnR w base v l) (o : Obj) : OwnR (w.alloc o) base v l := World.ownsRow.alloc h o
theorem OwnR.keep0 {w w' : World} {base : Nat} {v : Value} {l : List PR} (h : OwnR w base v l) (k : Keeps [] w w') : OwnR w' base v l := own_keeps h k
theorem Tryd.infoRule : ∃ b, (Tryd.prog.info? 35).map (fun i => (i.zero, i.size, i.bytes)) = some (some (.agg #[.string ByteArray.empty, .bool false, .int .u32 0, .int .u16 0]), 4, b) ∧ b ≤ 64 := ⟨32, by kernel_rfl, by decide⟩
set_option maxRecDepth 100000 in
theorem run_append_rules (w : World) (base t ty : Nat) (ht : Tryd.prog.underlying t = some (.slice 35)) (v : Value) (l1 : List PR) (hown : OwnR w base v l1) (A : Option Addr) (n c : Nat) (l2 : List PR) (hn : l2.length = n) (hl : RulesAt w A l2)
    (hz : l1.length + n ≤ 100000) (hbase : base ≤ w.heap.size) :
    ∃ v' w', (Builtin.append_ #[t, t] ty #[v, .slice A n c]).run Tryd.prog w = .ok v' w' ∧ OwnR w' base v' (l1 ++ l2) ∧ w.grownBy w' v.ownBlock ∧ (v'.ownBlock = v.ownBlock ∨ v'.ownBlock = some w.heap.size) := by
  obtain ⟨bb, hi, hbb⟩ := Tryd.infoRule
  obtain ⟨i0, hi0, hz0, hz1, hz2⟩ := info_parts hi
  rcases A with _ | a
  · have h2 : l2 = [] := by
      rcases hl with h | ⟨b, o, h, _⟩
      · exact h
      · cases h
    subst h2
    have hn0 : n = 0 := by rw [← hn]; rfl
    subst hn0
    refine ⟨v, w, ?_, by simpa using hown, World.grownBy.refl w _, .inl rfl⟩
    rcases hown.2 with ⟨rfl, h0⟩ | ⟨g, cap, cur, rfl, _, _, hnc, _⟩
    · simp [Builtin.append_, run_underlying ht, sizeOf, typeInfo, hi0, Builtin.lenOf, Builtin.firstCells]
    · simp [Builtin.append_, run_underlying ht, sizeOf, typeInfo, hi0, Builtin.lenOf, Builtin.firstCells, hnc, storeCells]
  · have hcells : ∀ j u, (rowR l2)[j]? = some u → w.cell? (a.add j) = some u := by
      intro j u hu
      obtain ⟨x, hx, hxu⟩ := rowR_get hu
      rcases hl with rfl | ⟨b, o, e, hc⟩
      · simp at hx
      · injection e with e
        subst e
        rw [addr_add]
        obtain ⟨g0, g1, g2, g3⟩ := hc _ x hx
        have hj : j = j / 4 * 4 + j % 4 := by omega
        rw [hj, ← Nat.add_assoc]
        have h4 : j % 4 < 4 := Nat.mod_lt _ (by omega)
        revert hxu
        obtain h | h | h | h : j % 4 = 0 ∨ j % 4 = 1 ∨ j % 4 = 2 ∨ j % 4 = 3 := by omega
        all_goals
          rw [h]
          intro hxu
          simp only [cellsR, List.getElem?_cons_zero, List.getElem?_cons_succ, Option.some.injEq] at hxu
          subst hxu
          assumption
    obtain ⟨v', w', hrun, h2', h3', h4', h5'⟩ := run_append_own_at (P := Tryd.prog) w base t ty 35 i0 _ 4 bb ht hi0 hz0 hz1 hz2 rfl (by omega) v l1.length (rowR l1) hown a n c (rowR l2) (by rw [rowR_len, hn]) hcells (rowR_one l2) (by simp only [maxLen]; omega)
      (Nat.le_trans (Nat.mul_le_mul hz hbb) (by omega)) hbase
    refine ⟨v', w', hrun, ?_, h3', h5'⟩
    unfold OwnR
    rw [List.length_append, hn, rowR_append]
    exact h2'
/-- append as one step of a region that draws -/
theorem step_append_R {o : Oper} {a : Act} {w w0 : World} {K : Act → World → Prop} {Q : Exit → Act → World → Prop} (s x : Operand) (t : TypeId)
    (hop : o.op = Op.call { callee := Callee.builtin Builtin.append, args := #[s, x], argTypes := #[t, t] }) (ht : Tryd.prog.underlying t = some (.slice 35))
    (v : Value) (l1 : List PR) (hs : a.eval s = v) (hown : OwnR w w0.heap.size v l1) (A : Option Addr) (n c : Nat) (l2 : List PR) (hx : a.eval x = .slice A n c) (hn : l2.length = n) (hl : RulesAt w A l2) (hz : l1.length + n ≤ 100000) (kw : Keeps [] w0 w)
    (h : ∀ v' w', OwnR w' w0.heap.size v' (l1 ++ l2) → w.grownBy w' v.ownBlock → Keeps [] w0 w' → K (a.put o.dst v') w') : Oper.wp Tryd.prog o a w K Q := by
  obtain ⟨v', w', hrun, h2, h3, h4⟩ := run_append_rules w w0.heap.size t o.type ht v l1 hown A n c l2 hn hl hz kw.size
  have kk : Keeps [] w0 w' := kw.own h3 (fun j hj => (hown.lt j hj).1)
  unfold Oper.wp
  simp only [execOp, hop, resolve, invoke, builtin, Sem.run_bind, Sem.run_pure, Result.andThen_ok, List.map_toArray, List.map_cons, List.map_nil, hs, hx, hrun]
  exact h v' w' h2 h3 kk
/-- append at a plain region's list -/
theorem wpList_append_R {ops : Array Oper} {rest : List Oper} {o : Oper} {a : Act} {w w0 : World} {Q : Exit → Act → World → Prop} (hg : o.guard = none) (s x : Operand) (t : TypeId)
    (hop : o.op = Op.call { callee := Callee.builtin Builtin.append, args := #[s, x], argTypes := #[t, t] }) (ht : Tryd.prog.underlying t = some (.slice 35))
    (v : Value) (l1 : List PR) (hs : a.eval s = v) (hown : OwnR w w0.heap.size v l1) (A : Option Addr) (n c : Nat) (l2 : List PR) (hx : a.eval x = .slice A n c) (hn : l2.length = n) (hl : RulesAt w A l2) (hz : l1.length + n ≤ 100000) (kw : Keeps [] w0 w)
    (h : ∀ v' w', OwnR w' w0.heap.size v' (l1 ++ l2) → w.grownBy w' v.ownBlock → Keeps [] w0 w' → wpList Tryd.prog ops Q rest (a.put o.dst v') w') : wpList Tryd.prog ops Q (o :: rest) a w := by
  refine wpList_plain hg fun K' hK' => ?_
  obtain ⟨v', w', hrun, h2, h3, h4⟩ := run_append_rules w w0.heap.size t o.type ht v l1 hown A n c l2 hn hl hz kw.size
  have kk : Keeps [] w0 w' := kw.own h3 (fun j hj => (hown.lt j hj).1)
  unfold Oper.wp execOp
  simp only [hop, resolve, invoke, builtin, Sem.run_bind, Sem.run_pure, Result.andThen_ok, List.map_toArray, List.map_cons, List.map_nil, hs, hx, hrun]
  exact hK' _ _ (h v' w' h2 h3 kk)

theorem rules_one {w : World} {b : Nat} {s : ByteArray} {d : Bool} {a p : Int} {t : TypeId} {z : Nat × Nat} (h : w.heap[b]? = some (.cells #[.string s, .bool d, .int .u32 a, .int .u16 p] t z)) : RulesAt w (some ⟨b, 0, none⟩) [⟨s, d, a, p⟩] := by
  refine .inr ⟨b, 0, rfl, fun i x hx => ?_⟩
  have hi : i = 0 := by have := (List.getElem?_eq_some_iff.1 hx).1; simp at this; exact this
  subst hi
  simp at hx
  subst hx
  exact ⟨cell_of_block h 0, cell_of_block h 1, cell_of_block h 2, cell_of_block h 3⟩
theorem rule_set {w : World} {g t : Nat} {z : Nat × Nat} {z0 z1 z2 z3 : Value} (h : w.heap[g]? = some (.cells #[z0, z1, z2, z3] t z)) (v0 v1 v2 v3 : Value) : ((((w.setCell ⟨g, 0, none⟩ v0).setCell ⟨g, 1, none⟩ v1).setCell ⟨g, 2, none⟩ v2).setCell ⟨g, 3, none⟩ v3).heap[g]? = some (.cells #[v0, v1, v2, v3] t z) ∧ Keeps [g] w ((((w.setCell ⟨g, 0, none⟩ v0).setCell ⟨g, 1, none⟩ v1).setCell ⟨g, 2, none⟩ v2).setCell ⟨g, 3, none⟩ v3) := by
  have h0 := heap_setCell_self h 0 v0
  simp only [List.setIfInBounds_toArray, List.set_cons_zero, List.set_cons_succ] at h0
  have h1 := heap_setCell_self h0 1 v1
  simp only [List.setIfInBounds_toArray, List.set_cons_zero, List.set_cons_succ] at h1
  have h2 := heap_setCell_self h1 2 v2
  simp only [List.setIfInBounds_toArray, List.set_cons_zero, List.set_cons_succ] at h2
  have h3 := heap_setCell_self h2 3 v3
  simp only [List.setIfInBounds_toArray, List.set_cons_zero, List.set_cons_succ] at h3
  exact ⟨h3, (((Keeps.setCell w ⟨g, 0, none⟩ v0).trans (Keeps.setCell _ ⟨g, 1, none⟩ v1)).trans (Keeps.setCell _ ⟨g, 2, none⟩ v2)).trans (Keeps.setCell _ ⟨g, 3, none⟩ v3)⟩
theorem RulesAt.drop {w : World} {b o : Nat} {l : List PR} (h : RulesAt w (some ⟨b, o, none⟩) l) (k : Nat) : RulesAt w (some ⟨b, o + k * 4, none⟩) (l.drop k) := by
  rcases h with rfl | ⟨b', o', e, hc⟩
  · exact .inl (by simp)
  · injection e with e
    injection e with e1 e2
    subst e1 e2
    refine .inr ⟨b, o + k * 4, rfl, fun i x hx => ?_⟩
    rw [List.getElem?_drop] at hx
    have := hc (k + i) x hx
    rw [show o + (k + i) * 4 = o + k * 4 + i * 4 by omega] at this
    exact this
/-- strings of a slice as they lie -/
def StrsAt (w : World) (A : Option Addr) (zs : List ByteArray) : Prop :=
  zs = [] ∨ ∃ b o, A = some ⟨b, o, none⟩ ∧ ∀ (i : Nat) (x : ByteArray), zs[i]? = some x → w.cell? ⟨b, o + i, none⟩ = some (.string x)
theorem StrsAt.keep {w w' : World} {A : Option Addr} {zs : List ByteArray} {S : List Nat} (h : StrsAt w A zs) (k : Keeps S w w') (hS : ∀ b ∈ S, ∀ o, A ≠ some ⟨b, o, none⟩) : StrsAt w' A zs := by
  rcases h with h | ⟨b, o, h1, h2⟩
  · exact .inl h
  · exact .inr ⟨b, o, h1, fun i x hx => cell_keeps k (h2 i x hx) (fun hm => hS b hm o h1)⟩
end Go.Proofs.YtbmkdnkiojapbaaDoor
