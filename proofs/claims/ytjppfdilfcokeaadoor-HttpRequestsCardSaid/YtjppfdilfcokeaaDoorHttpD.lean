/-
  Fields appended to a row of the call's own; fields as they come in. No condition but that the rows are not long.
-/
import Derived.Test.YtjppfdilfcokeaaDoorHttpQ
import Derived.Maps.AppendAt
import Derived.Test.YtjppfdilfcokeaaDoorHttpV
namespace Go.Proofs.YtjppfdilfcokeaaDoor
open Go.RowKit Go.Lib Go.ChangeShapes Go.WideShapes Go.ChangeAt Go.Joins
set_option linter.unusedVariables false
set_option linter.unusedSimpArgs false

/-- a field's cells; a row's -/
def cellsF (x : FL) : List Value := [.string (bs x.1), .string (bs x.2)]
def rowF (l : List FL) : List Value := l.flatMap cellsF
theorem rowF_len (l : List FL) : (rowF l).length = l.length * 2 := by
  induction l with
  | nil => rfl
  | cons a t ih => unfold rowF at ih ⊢; rw [List.flatMap_cons, List.length_append, ih, List.length_cons]; simp [cellsF]; omega
theorem rowF_at : ∀ (l : List FL) (i : Nat) {x : FL}, l[i]? = some x → ∀ j, j < 2 → (rowF l)[i * 2 + j]? = (cellsF x)[j]?
  | [], i, x, h, j, hj => by simp at h
  | a :: t, 0, x, h, j, hj => by
    simp at h
    subst h
    unfold rowF
    rw [List.flatMap_cons, List.getElem?_append_left (by simp [cellsF]; omega)]
    simp
  | a :: t, i + 1, x, h, j, hj => by
    have h' : t[i]? = some x := by simpa using h
    have ih := rowF_at t i h' j hj
    unfold rowF at ih ⊢
    rw [List.flatMap_cons, List.getElem?_append_right (by simp [cellsF]; omega)]
    have e : (i + 1) * 2 + j - (cellsF a).length = i * 2 + j := by simp [cellsF]; omega
    rw [e]; exact ih
theorem rowF_get {l : List FL} {k : Nat} {u : Value} (h : (rowF l)[k]? = some u) : ∃ x, l[k / 2]? = some x ∧ (cellsF x)[k % 2]? = some u := by
  have hk := (List.getElem?_eq_some_iff.1 h).1
  rw [rowF_len] at hk
  have hi : k / 2 < l.length := by omega
  refine ⟨l[k / 2], List.getElem?_eq_getElem hi, ?_⟩
  have := rowF_at l (k / 2) (List.getElem?_eq_getElem hi) (k % 2) (by omega)
  rw [← this, show k / 2 * 2 + k % 2 = k by omega]
  exact h
theorem rowF_one (l : List FL) : ∀ u ∈ rowF l, u.oneCell' = true := by
  intro u hu
  unfold rowF at hu
  obtain ⟨x, _, h⟩ := List.mem_flatMap.1 hu
  simp only [cellsF, List.mem_cons, List.not_mem_nil, or_false] at h
  rcases h with rfl | rfl <;> rfl
theorem rowF_append (a b : List FL) : rowF (a ++ b) = rowF a ++ rowF b := by unfold rowF; rw [List.flatMap_append]
def OwnF (w : World) (base : Nat) (v : Value) (l : List FL) : Prop := w.ownsRow base 32 2 v l.length (rowF l)
theorem addr_at (g j : Nat) : (⟨g, 0, none⟩ : Addr).add j = ⟨g, j, none⟩ := by unfold Addr.add; split <;> simp_all
theorem addr_add (g o j : Nat) : (⟨g, o, none⟩ : Addr).add j = ⟨g, o + j, none⟩ := by unfold Addr.add; split <;> simp_all
theorem OwnF.fields {w : World} {base : Nat} {v : Value} {l : List FL} (h : OwnF w base v l) : ∃ A c, v = .slice A l.length c ∧ FieldsV w A l.length c l := by
  rcases h.2 with ⟨rfl, h0⟩ | ⟨g, cap, cur, rfl, hb, hg, hnc, hm, hsz, ht⟩
  · exact ⟨none, 0, by rw [h0], rfl, by omega, fun hp => by omega⟩
  · refine ⟨_, cap, rfl, rfl, hnc, fun hp => ⟨g, 0, rfl, fun i x hx => ?_⟩⟩
    have key : ∀ j u, (cellsF x)[j]? = some u → w.cell? ⟨g, 0 + i * 2 + j, none⟩ = some u := fun j u hu => by
      have hj : j < 2 := by have := (List.getElem?_eq_some_iff.1 hu).1; simpa [cellsF] using this
      have := World.ownsRow.cells h (g := g) rfl (i * 2 + j) u (by rw [rowF_at l i hx j hj]; exact hu)
      rw [addr_at] at this
      rw [Nat.zero_add]; exact this
    exact ⟨key 0 _ rfl, key 1 _ rfl⟩
theorem OwnF.nil (w : World) (base : Nat) : OwnF w base (.slice none 0 0) [] := World.ownsRow_nil _ _ _ _
theorem OwnF.keep0 {w w' : World} {base : Nat} {v : Value} {l : List FL} (h : OwnF w base v l) (k : Keeps [] w w') : OwnF w' base v l := own_keeps h k
theorem Tryd.infoField : ∃ b, (Tryd.prog.info? 32).map (fun i => (i.zero, i.size, i.bytes)) = some (some (.agg #[.string ByteArray.empty, .string ByteArray.empty]), 2, b) ∧ b ≤ 64 := ⟨32, by kernel_rfl, by decide⟩
set_option maxRecDepth 100000 in
theorem run_append_field (w : World) (base t ty : Nat) (ht : Tryd.prog.underlying t = some (.slice 32)) (v : Value) (l1 : List FL) (hown : OwnF w base v l1) (a : Addr) (c : Nat) (x : FL) (h1 : w.cell? a = some (.string (bs x.1))) (h2 : w.cell? (a.add 1) = some (.string (bs x.2)))
    (hz : l1.length + 1 ≤ 100000) (hbase : base ≤ w.heap.size) :
    ∃ v' w', (Builtin.append_ #[t, t] ty #[v, .slice (some a) 1 c]).run Tryd.prog w = .ok v' w' ∧ OwnF w' base v' (l1 ++ [x]) ∧ w.grownBy w' v.ownBlock ∧ (v'.ownBlock = v.ownBlock ∨ v'.ownBlock = some w.heap.size) := by
  obtain ⟨bb, hi, hbb⟩ := Tryd.infoField
  obtain ⟨i0, hi0, hz0, hz1, hz2⟩ := info_parts hi
  have hcells : ∀ j u, (rowF [x])[j]? = some u → w.cell? (a.add j) = some u := by
    intro j u hu
    have hj : (rowF [x]) = [.string (bs x.1), .string (bs x.2)] := rfl
    rw [hj] at hu
    match j, hu with
    | 0, hu =>
      simp only [List.getElem?_cons_zero, Option.some.injEq] at hu
      rw [← hu]
      have : a.add 0 = a := by unfold Addr.add; simp
      rw [this]; exact h1
    | 1, hu =>
      simp only [List.getElem?_cons_zero, List.getElem?_cons_succ, Option.some.injEq] at hu
      rw [← hu]; exact h2
    | j + 2, hu => simp at hu
  obtain ⟨v', w', hrun, h2', h3', h4', h5'⟩ := run_append_own_at (P := Tryd.prog) w base t ty 32 i0 _ 2 bb ht hi0 hz0 hz1 hz2 rfl (by omega) v l1.length (rowF l1) hown a 1 c (rowF [x]) (by rw [rowF_len]; rfl) hcells (rowF_one [x]) (by simp only [maxLen]; omega)
    (Nat.le_trans (Nat.mul_le_mul hz hbb) (by omega)) hbase
  refine ⟨v', w', hrun, ?_, h3', h5'⟩
  unfold OwnF
  rw [List.length_append, rowF_append]
  exact h2'
/-- append of one at a plain region's list -/
theorem wpList_append_F {ops : Array Oper} {rest : List Oper} {o : Oper} {a : Act} {w w0 : World} {Q : Exit → Act → World → Prop} (hg : o.guard = none) (s x : Operand) (t : TypeId)
    (hop : o.op = Op.call { callee := Callee.builtin Builtin.append, args := #[s, x], argTypes := #[t, t] }) (ht : Tryd.prog.underlying t = some (.slice 32))
    (v : Value) (l1 : List FL) (hs : a.eval s = v) (hown : OwnF w w0.heap.size v l1) (A : Addr) (c : Nat) (f : FL) (hx : a.eval x = .slice (some A) 1 c) (h1 : w.cell? A = some (.string (bs f.1))) (h2 : w.cell? (A.add 1) = some (.string (bs f.2))) (hz : l1.length + 1 ≤ 100000) (kw : Keeps [] w0 w)
    (h : ∀ v' w', OwnF w' w0.heap.size v' (l1 ++ [f]) → Keeps [] w0 w' → wpList Tryd.prog ops Q rest (a.put o.dst v') w') : wpList Tryd.prog ops Q (o :: rest) a w := by
  refine wpList_plain hg fun K' hK' => ?_
  obtain ⟨v', w', hrun, h2, h3, h4⟩ := run_append_field w w0.heap.size t o.type ht v l1 hown A c f h1 h2 hz kw.size
  have kk : Keeps [] w0 w' := kw.own h3 (fun j hj => (hown.lt j hj).1)
  unfold Oper.wp execOp
  simp only [hop, resolve, invoke, builtin, Sem.run_bind, Sem.run_pure, Result.andThen_ok, List.map_toArray, List.map_cons, List.map_nil, hs, hx, hrun]
  exact hK' _ _ (h v' w' h2 kk)
/-- the document's fields, as they come in: no string longer than a string may be -/
theorem Tryd.cellsFd : Tryd.prog.cellsOf 33 = 2 := by kernel_rfl
set_option maxRecDepth 100000 in
theorem open_fields {H : Type} {enc : TypeId × Value → H} {W : World} {v : Value} {d : DataW H} {p : List MemPlace} {b0 : Nat} (o : Value.okWide Tryd.prog W .any b0 29 v) (h : DataW.Trod enc Tryd.prog W 0 (fun _ => true) true 29 v d p) :
    ∃ A n k l, v = .slice A n k ∧ FieldsV W A n k l ∧ ∀ f ∈ l, f.1.length ≤ maxLen ∧ f.2.length ≤ maxLen := by
  obtain ⟨a0, len, cap, rfl⟩ := okWide_slice Tryd.underlying29 o
  obtain ⟨fuel, hf⟩ := h
  rcases DataW.trod_slice Tryd.underlying29 hf with ⟨hcs, _⟩ | ⟨a, len', cap', elems, rest, n, _, hcs, _, hb, hl, hm, hlen, hel, _, _⟩
  · simp [Value.cells] at hcs
    obtain ⟨rfl, rfl, rfl⟩ := hcs
    exact ⟨none, 0, 0, [], rfl, ⟨rfl, by omega, fun h => by omega⟩, by simp⟩
  · simp [Value.cells] at hcs
    obtain ⟨rfl, rfl, rfl⟩ := hcs
    rw [Tryd.cellsFd] at hel
    have key : ∀ i, i < len → ∃ x : FL, W.cell? (a.add (i * 2)) = some (.string (bs x.1)) ∧ W.cell? ((a.add (i * 2)).add 1) = some (.string (bs x.2)) ∧ x.1.length ≤ maxLen ∧ x.2.length ≤ maxLen := by
      intro i hi
      have he := hel i hi
      rw [List.getElem?_eq_getElem (by omega)] at he
      obtain ⟨cs, hc, ht⟩ := Option.bind_eq_some_iff.1 he
      obtain ⟨_, hcl, hcc⟩ := World.cells?_some hc
      obtain ⟨y0, y1, m, _, _, h0, h1⟩ := trod_struct2 Tryd.underlying33 ht
      match cs, hcl with
      | [c0, c1], _ =>
        have e0 : Tryd.prog.cellsOf 9 = 1 := by kernel_rfl
        simp [e0] at h0 h1
        obtain ⟨x0, q0, _, s0⟩ := DataW.trod_string Tryd.underlying9 h0
        obtain ⟨x1, q1, _, s1⟩ := DataW.trod_string Tryd.underlying9 h1
        simp at q0 q1
        subst q0 q1
        have g0 := hcc 0 (by omega)
        have g1 := hcc 1 (by omega)
        have b0 : bs x0.data.toList = x0 := by cases x0; simp [bs]
        have b1 : bs x1.data.toList = x1 := by cases x1; simp [bs]
        exact ⟨(x0.data.toList, x1.data.toList), by rw [b0]; simpa [Addr.add] using g0, by rw [b1]; simpa [Addr.add] using g1, by rw [← size_eq]; exact s0, by rw [← size_eq]; exact s1⟩
    have hch : ∃ f : Nat → FL, ∀ i, i < len → W.cell? (a.add (i * 2)) = some (.string (bs (f i).1)) ∧ W.cell? ((a.add (i * 2)).add 1) = some (.string (bs (f i).2)) ∧ (f i).1.length ≤ maxLen ∧ (f i).2.length ≤ maxLen := by
      refine ⟨fun i => if hi : i < len then (key i hi).choose else ([], []), fun i hi => ?_⟩
      simp only [hi, dif_pos]
      exact (key i hi).choose_spec
    obtain ⟨f, hf⟩ := hch
    refine ⟨some a, len, cap, (List.range len).map f, rfl, ⟨by simp, hl, fun hp => ?_⟩, fun x hx => ?_⟩
    · have hsp : a.spot = none := by
        have g := (hf 0 hp).1
        simp only [Nat.zero_mul, Addr.add, if_true] at g
        unfold World.cell? at g
        split at g
        · split at g
          · cases g
          · rename_i hs; simpa using hs
        · cases g
      obtain ⟨blk, off, sp⟩ := a
      simp only at hsp
      subst hsp
      refine ⟨blk, off, rfl, fun i x hx => ?_⟩
      have hi : i < len := by have := (List.getElem?_eq_some_iff.1 hx).1; simpa using this
      rw [List.getElem?_map, List.getElem?_range hi] at hx
      simp only [Option.map_some, Option.some.injEq] at hx
      subst hx
      have h2 := hf i hi
      rw [addr_add, addr_add] at h2
      exact ⟨h2.1, h2.2.1⟩
    · obtain ⟨i, hi, rfl⟩ := List.mem_map.1 hx
      exact (hf i (List.mem_range.1 hi)).2.2
end Go.Proofs.YtjppfdilfcokeaaDoor
