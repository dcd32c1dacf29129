/-
  Plain helper laws, of no program: a map in memory with string keys, read as an association list. (Printed by tools/gen_kits.py off the text for integer keys.) No condition.
-/
import Derived.Test.YtbmkdnkiojapbaaDoorKitA
namespace Go.Proofs.YtbmkdnkiojapbaaDoor
open Go.RowKit
set_option linter.unusedVariables false
set_option linter.unusedSimpArgs false
instance ba_lawful : LawfulBEq ByteArray where
  rfl := by
    rintro ⟨a⟩
    show (a == a) = true
    simp
  eq_of_beq := by
    rintro ⟨a⟩ ⟨b⟩ h
    have h' : (a == b) = true := h
    rw [beq_iff_eq] at h'
    rw [h']

/-! ### association lists -/
namespace SL
variable {α : Type}
def find (k : ByteArray) : List (ByteArray × α) → Option α
  | [] => none
  | x :: r => if x.1 = k then some x.2 else find k r
def put (k : ByteArray) (v : α) : List (ByteArray × α) → List (ByteArray × α)
  | [] => [(k, v)]
  | x :: r => if x.1 = k then (k, v) :: r else x :: put k v r
def del (k : ByteArray) : List (ByteArray × α) → List (ByteArray × α)
  | [] => []
  | x :: r => if x.1 = k then r else x :: del k r
def keys (l : List (ByteArray × α)) : List ByteArray := l.map (·.1)
theorem find_none {k : ByteArray} {l : List (ByteArray × α)} : find k l = none ↔ k ∉ keys l := by
  induction l with
  | nil => simp [find, keys]
  | cons x r ih =>
    simp only [find, keys, List.map_cons, List.mem_cons, not_or]
    by_cases h : x.1 = k
    · simp [h]
    · simp only [h, if_false]
      rw [ih]
      simp only [keys]
      exact ⟨fun h' => ⟨fun e => h e.symm, h'⟩, fun h' => h'.2⟩
theorem keys_nil : keys ([] : List (ByteArray × α)) = [] := rfl
theorem keys_cons (x : ByteArray × α) (r : List (ByteArray × α)) : keys (x :: r) = x.1 :: keys r := rfl
theorem keys_put (k : ByteArray) (v : α) (l : List (ByteArray × α)) : keys (put k v l) = if k ∈ keys l then keys l else keys l ++ [k] := by
  induction l with
  | nil => simp [put, keys_nil, keys_cons]
  | cons x r ih =>
    simp only [put]
    by_cases h : x.1 = k
    · simp [h, keys_cons]
    · simp only [h, if_false, keys_cons, List.mem_cons]
      rw [ih]
      have h' : ¬ k = x.1 := fun e => h e.symm
      by_cases hm : k ∈ keys r
      · simp [hm]
      · simp [hm, h']
theorem keys_del (k : ByteArray) (l : List (ByteArray × α)) : keys (del k l) = (keys l).erase k := by
  induction l with
  | nil => simp [del, keys]
  | cons x r ih =>
    simp only [del]
    by_cases h : x.1 = k
    · simp [h, keys]
    · simp only [h, if_false, keys, List.map_cons] at ih ⊢
      rw [List.erase_cons_tail (by simpa using h), ih]
theorem find_put (k j : ByteArray) (v : α) (l : List (ByteArray × α)) : find j (put k v l) = if j = k then some v else find j l := by
  induction l with
  | nil => simp only [put, find]; by_cases h : j = k <;> simp [h]; intro e; exact absurd e.symm h
  | cons x r ih =>
    simp only [put]
    by_cases h : x.1 = k
    · simp only [h, if_true, find]
      by_cases hj : j = k
      · simp [hj]
      · have hj' : ¬ k = j := fun e => hj e.symm
        simp [hj, hj']
    · simp only [h, if_false, find, ih]
      by_cases hj : j = k
      · simp [hj, h]
      · simp [hj]
theorem find_del (k j : ByteArray) {l : List (ByteArray × α)} (hn : (keys l).Nodup) : find j (del k l) = if j = k then none else find j l := by
  induction l with
  | nil => simp [del, find]
  | cons x r ih =>
    simp only [keys, List.map_cons, List.nodup_cons] at hn
    simp only [del]
    by_cases h : x.1 = k
    · simp only [h, if_true, find]
      by_cases hj : j = k
      · subst hj
        simp only [if_true]
        exact find_none.2 (by rw [← h]; exact hn.1)
      · have hj' : ¬ k = j := fun e => hj e.symm
        simp [hj, hj']
    · simp only [h, if_false, find, ih hn.2]
      by_cases hj : j = k
      · simp [hj, h]
      · simp [hj]
theorem nodup_put (k : ByteArray) (v : α) {l : List (ByteArray × α)} (hn : (keys l).Nodup) : (keys (put k v l)).Nodup := by
  rw [keys_put]
  split
  · exact hn
  · rename_i h
    exact List.nodup_append.2 ⟨hn, by simp, fun a ha b hb => by simp at hb; subst hb; intro e; subst e; exact h ha⟩
theorem nodup_del (k : ByteArray) {l : List (ByteArray × α)} (hn : (keys l).Nodup) : (keys (del k l)).Nodup := by
  rw [keys_del]; exact hn.erase k
end SL

/-- BLOCK r OF w IS A MAP WHOSE ENTRIES, IN THE ORDER OF THEIR MAKING, ARE l. -/
def SMapAt {α : Type} (w : World) (r : Nat) (enc : α → Value) (l : List (ByteArray × α)) : Prop :=
  ∃ es clock, w.heap[r]? = some (.map es clock) ∧ es.toList.map (fun e => (e.key, e.val)) = l.map (fun x => (Value.string x.1, enc x.2)) ∧ Stamps es clock

section
variable {α : Type} {P : Program} {w : World} {r : Nat} {enc : α → Value} {l : List (ByteArray × α)} {t k e : TypeId}

theorem SMapAt.of_heap {w' : World} (h : SMapAt w r enc l) (hh : w'.heap[r]? = w.heap[r]?) : SMapAt w' r enc l := by
  obtain ⟨es, clock, h1, h2⟩ := h
  exact ⟨es, clock, hh.trans h1, h2⟩
theorem SMapAt.lt (h : SMapAt w r enc l) : r < w.heap.size := by
  obtain ⟨es, clock, h1, _⟩ := h
  exact (Array.getElem?_eq_some_iff.1 h1).1
theorem SMapAt.made (w : World) (enc : α → Value) : SMapAt (w.alloc (.map #[] 0)) w.heap.size enc [] :=
  ⟨#[], 0, (MapKept.heap_alloc w _).1, by simp, by simp [Stamps]⟩

theorem findNow_al_s (n : ByteArray) : ∀ (es : List MapEntry) (l : List (ByteArray × α)) (i : Nat), es.map (fun e => (e.key, e.val)) = l.map (fun x => (Value.string x.1, enc x.2)) →
    (Instr.findNow .string (.string n) es i = some none ∧ SL.find n l = none) ∨
    ∃ j v, Instr.findNow .string (.string n) es i = some (some (i + j, enc v)) ∧ SL.find n l = some v ∧ j < l.length ∧ (l[j]?).map (·.1) = some n ∧ (∀ x ∈ l.take j, x.1 ≠ n)
  | [], l, i, h => by
    cases l with
    | nil => exact .inl ⟨rfl, rfl⟩
    | cons x r => simp at h
  | e :: es, l, i, h => by
    cases l with
    | nil => simp at h
    | cons x r =>
      simp only [List.map_cons, List.cons.injEq, Prod.mk.injEq] at h
      obtain ⟨⟨hk, hv⟩, hr⟩ := h
      by_cases hx : x.1 = n
      · refine .inr ⟨0, x.2, ?_, ?_, by simp, by simp [hx], by simp⟩
        · simp [Instr.findNow, Instr.sameNow, hk, hv, hx]
        · simp [SL.find, hx]
      · have hx' : (n == x.1) = false := by simpa using fun e => hx e.symm
        have hstep : Instr.findNow .string (.string n) (e :: es) i = Instr.findNow .string (.string n) es (i + 1) := by
          simp [Instr.findNow, Instr.sameNow, hk, hx']
        rw [hstep]
        rcases findNow_al_s n es r (i + 1) hr with ⟨h1, h2⟩ | ⟨j, v, h1, h2, h3, h4, h5⟩
        · exact .inl ⟨h1, by simp [SL.find, hx, h2]⟩
        · refine .inr ⟨j + 1, v, by rw [h1]; simp; omega, by simp [SL.find, hx, h2], by simp; omega, by simpa using h4, ?_⟩
          intro y hy
          simp only [List.take_succ_cons, List.mem_cons] at hy
          rcases hy with rfl | hy
          · exact hx
          · exact h5 y hy

theorem run_checkKey_int_s (hk : P.underlying k = some .string) (em : Bool) (n : ByteArray) (w : World) : (Instr.checkKey em 10000 k (.string n)).run P w = .ok () w := 
  by
  have := MapKept.run_checkKey (P := P) (w := w) (k := .string n) hk (by simp [MapKept.IsKey]) em 9999
  exact this

theorem run_findKey_al_s (hk : P.underlying k = some .string) (n : ByteArray) {es : List MapEntry} {l : List (ByteArray × α)} (h : es.map (fun e => (e.key, e.val)) = l.map (fun x => (Value.string x.1, enc x.2))) (w : World) :
    ((Instr.findKey k (.string n) es).run P w = .ok none w ∧ SL.find n l = none) ∨
    ∃ j v, (Instr.findKey k (.string n) es).run P w = .ok (some (j, enc v)) w ∧ SL.find n l = some v ∧ j < l.length ∧ (l[j]?).map (·.1) = some n ∧ (∀ x ∈ l.take j, x.1 ≠ n) := by
  rcases findNow_al_s n es l 0 h with ⟨h1, h2⟩ | ⟨j, v, h1, h2, h3, h4⟩
  · exact .inl ⟨by simp [Instr.findKey, run_underlying hk, h1, Result.andThen], h2⟩
  · exact .inr ⟨j, v, by simp [Instr.findKey, run_underlying hk, h1, Result.andThen], h2, h3, h4⟩

/-- 'm[k]', with 'ok' or without. -/
theorem SMapAt.look (h : SMapAt w r enc l) (ht : P.underlying t = some (.map k e)) (hk : P.underlying k = some .string) {z : Value} (hz : ∀ w, (zeroValue e).run P w = .ok z w) (n : ByteArray) (w' : World) (hw : w'.heap[r]? = w.heap[r]?) (c : Bool) :
    (Instr.lookup t (.map (some r)) (.string n) c).run P w' = .ok (if c then .tuple #[((SL.find n l).map enc).getD z, .bool (SL.find n l).isSome] else ((SL.find n l).map enc).getD z) w' := by
  obtain ⟨es, clock, hb, hl, _⟩ := h
  have hb' : w'.heap[r]? = some (.map es clock) := hw.trans hb
  rcases run_findKey_al_s (P := P) hk n hl w' with ⟨h1, h2⟩ | ⟨j, v, h1, h2, _⟩
  · simp [Instr.lookup, run_underlying ht, MapKept.run_getObj_map hb', run_checkKey_int_s hk, h1, h2, hz, Result.andThen]
  · simp [Instr.lookup, run_underlying ht, MapKept.run_getObj_map hb', run_checkKey_int_s hk, h1, h2, Result.andThen]

theorem map_modify_al_s {es : Array MapEntry} {l : List (ByteArray × α)} {n : ByteArray} {v : α} {j : Nat} (h : es.toList.map (fun e => (e.key, e.val)) = l.map (fun x => (Value.string x.1, enc x.2)))
    (h4 : (l[j]?).map (·.1) = some n) (h5 : ∀ x ∈ l.take j, x.1 ≠ n) :
    (es.modify j fun e => { e with key := .string n, val := enc v }).toList.map (fun e => (e.key, e.val)) = (SL.put n v l).map (fun x => (Value.string x.1, enc x.2)) := by
  have key : ∀ (l : List (ByteArray × α)) (es : List MapEntry) (j : Nat), es.map (fun e => (e.key, e.val)) = l.map (fun x => (Value.string x.1, enc x.2)) → (l[j]?).map (·.1) = some n → (∀ x ∈ l.take j, x.1 ≠ n) →
      (es.modify j fun e => { e with key := .string n, val := enc v }).map (fun e => (e.key, e.val)) = (SL.put n v l).map (fun x => (Value.string x.1, enc x.2)) := by
    intro l
    induction l with
    | nil => intro es j h h4; simp at h4
    | cons x r ih =>
      intro es j h h4 h5
      cases es with
      | nil => simp at h
      | cons e es =>
        simp only [List.map_cons, List.cons.injEq, Prod.mk.injEq] at h
        cases j with
        | zero =>
          simp at h4
          simp [SL.put, h4, h.2]
        | succ j =>
          have hx : x.1 ≠ n := h5 x (by simp)
          simp only [List.modify_succ_cons, List.map_cons, SL.put, hx, if_false, List.cons.injEq, Prod.mk.injEq]
          refine ⟨h.1, ih es j h.2 (by simpa using h4) (fun y hy => h5 y (by simp [hy]))⟩
  rw [Array.toList_modify]
  exact key l es.toList j h h4 h5

theorem push_al_s {es : Array MapEntry} {l : List (ByteArray × α)} {n : ByteArray} {v : α} {c : Nat} (h : es.toList.map (fun e => (e.key, e.val)) = l.map (fun x => (Value.string x.1, enc x.2)))
    (h4 : SL.find n l = none) :
    (es.push { key := .string n, val := enc v, born := c }).toList.map (fun e => (e.key, e.val)) = (SL.put n v l).map (fun x => (Value.string x.1, enc x.2)) := by
  have e1 : SL.put n v l = l ++ [(n, v)] := by
    clear h
    induction l with
    | nil => rfl
    | cons x r ih =>
      simp only [SL.find] at h4
      by_cases hx : x.1 = n
      · simp [hx] at h4
      · simp only [hx, if_false] at h4
        simp [SL.put, hx, ih h4]
  rw [e1]
  simp [h]

theorem erase_al_s {es : Array MapEntry} {l : List (ByteArray × α)} {n : ByteArray} {j : Nat} (h : es.toList.map (fun e => (e.key, e.val)) = l.map (fun x => (Value.string x.1, enc x.2)))
    (h4 : (l[j]?).map (·.1) = some n) (h5 : ∀ x ∈ l.take j, x.1 ≠ n) :
    (es.eraseIdxIfInBounds j).toList.map (fun e => (e.key, e.val)) = (SL.del n l).map (fun x => (Value.string x.1, enc x.2)) := by
  have key : ∀ (l : List (ByteArray × α)) (es : List MapEntry) (j : Nat), es.map (fun e => (e.key, e.val)) = l.map (fun x => (Value.string x.1, enc x.2)) → (l[j]?).map (·.1) = some n → (∀ x ∈ l.take j, x.1 ≠ n) →
      (es.eraseIdx j).map (fun e => (e.key, e.val)) = (SL.del n l).map (fun x => (Value.string x.1, enc x.2)) := by
    intro l
    induction l with
    | nil => intro es j h h4; simp at h4
    | cons x r ih =>
      intro es j h h4 h5
      cases es with
      | nil => simp at h
      | cons e es =>
        simp only [List.map_cons, List.cons.injEq, Prod.mk.injEq] at h
        cases j with
        | zero =>
          simp at h4
          simp [SL.del, h4, h.2]
        | succ j =>
          have hx : x.1 ≠ n := h5 x (by simp)
          simp only [List.eraseIdx_cons_succ, List.map_cons, SL.del, hx, if_false, List.cons.injEq, Prod.mk.injEq]
          refine ⟨h.1, ih es j h.2 (by simpa using h4) (fun y hy => h5 y (by simp [hy]))⟩
  have e1 : (es.eraseIdxIfInBounds j).toList = es.toList.eraseIdx j := by
    unfold Array.eraseIdxIfInBounds
    split
    · simp
    · rename_i hj
      rw [List.eraseIdx_of_length_le (by simpa using hj)]
  rw [e1]
  exact key l es.toList j h h4 h5

theorem del_none_s {n : ByteArray} (h4 : SL.find n l = none) : SL.del n l = l := by
  induction l with
  | nil => rfl
  | cons x r ih =>
    simp only [SL.find] at h4
    by_cases hx : x.1 = n
    · simp [hx] at h4
    · simp only [hx, if_false] at h4
      simp [SL.del, hx, ih h4]

/-- 'm[k] = v'. -/
theorem SMapAt.store (h : SMapAt w r enc l) (ht : P.underlying t = some (.map k e)) (hk : P.underlying k = some .string) (n : ByteArray) (v : α) :
    ∃ w', (Instr.mapUpdate t (.map (some r)) (.string n) (enc v)).run P w = .ok () w' ∧ SMapAt w' r enc (SL.put n v l) ∧ w.mapTurned w' r := by
  obtain ⟨es, clock, hb, hl, hst⟩ := h
  rcases run_findKey_al_s (P := P) hk n hl w with ⟨h1, h2⟩ | ⟨j, v0, h1, h2, h3, h4, h5⟩
  · exact ⟨_, by simp [Instr.mapUpdate, run_underlying ht, MapKept.run_getObj_map hb, run_checkKey_int_s hk, h1, MapKept.run_setObj_map _ hb, Result.andThen]; rfl, ⟨_, _, ChangeMaps.heap_setBlock_same hb _, push_al_s hl h2, hst.push _ _⟩, ⟨es, clock, _, _, hb, rfl⟩⟩
  · have hkey : ((es[j]?).map (·.key)).getD (Value.string n) = .string n := by
      have hj : (es.toList.map (fun e => (e.key, e.val)))[j]? = (l.map (fun x => (Value.string x.1, enc x.2)))[j]? := by rw [hl]
      simp only [List.getElem?_map, Array.getElem?_toList] at hj
      obtain ⟨x, hx, hx1⟩ := Option.map_eq_some_iff.1 h4
      rw [hx] at hj
      obtain ⟨e0, he0, he1⟩ := Option.map_eq_some_iff.1 hj
      rw [he0]
      simp only [Prod.mk.injEq] at he1
      simp [he1.1, hx1]
    have hks : (Instr.keyThatStays (.string n) (.string n)).run P w = .ok (.string n) w := MapKept.run_keyThatStays (d := .string) (by simp [MapKept.IsKey])
    exact ⟨_, by simp [Instr.mapUpdate, run_underlying ht, MapKept.run_getObj_map hb, run_checkKey_int_s hk, h1, hkey, hks, MapKept.run_setObj_map _ hb, Result.andThen]; rfl, ⟨_, _, ChangeMaps.heap_setBlock_same hb _, map_modify_al_s hl h4 h5, hst.modify _ _ _⟩, ⟨es, clock, _, _, hb, rfl⟩⟩

/-- 'delete(m, k)'. -/
theorem SMapAt.drop (h : SMapAt w r enc l) (ht : P.underlying t = some (.map k e)) (hk : P.underlying k = some .string) (n : ByteArray) (ty : TypeId) :
    ∃ w', (Builtin.delete_ #[t, k] ty #[.map (some r), .string n]).run P w = .ok (.tuple #[]) w' ∧ SMapAt w' r enc (SL.del n l) ∧ w.mapTurned w' r := by
  obtain ⟨es, clock, hb, hl, hst⟩ := h
  rcases run_findKey_al_s (P := P) hk n hl w with ⟨h1, h2⟩ | ⟨j, v0, h1, h2, h3, h4, h5⟩
  · exact ⟨_, by simp [Builtin.delete_, run_underlying ht, MapKept.run_getObj_map hb, run_checkKey_int_s hk, h1, MapKept.run_setObj_map _ hb, Result.andThen]; rfl, ⟨_, _, ChangeMaps.heap_setBlock_same hb _, by rw [del_none_s h2]; exact hl, hst⟩, ⟨es, clock, _, _, hb, rfl⟩⟩
  · exact ⟨_, by simp [Builtin.delete_, run_underlying ht, MapKept.run_getObj_map hb, run_checkKey_int_s hk, h1, MapKept.run_setObj_map _ hb, Result.andThen]; rfl, ⟨_, _, ChangeMaps.heap_setBlock_same hb _, erase_al_s hl h4 h5, hst.erase _⟩, ⟨es, clock, _, _, hb, rfl⟩⟩

/-- 'len(m)'. -/
theorem SMapAt.len (h : SMapAt w r enc l) (ht : P.underlying t = some (.map k e)) (ty : TypeId) : (Builtin.len_ #[t] ty #[.map (some r)]).run P w = .ok (.int .i64 l.length) w := by
  obtain ⟨es, clock, hb, hl, _⟩ := h
  have hlen : es.size = l.length := by simpa using congrArg List.length hl
  simp [Builtin.len_, run_underlying ht, MapKept.run_getObj_map hb, goInt, hlen, Result.andThen]

/-! ### at the operation, for the walk -/
variable {ops : Array Oper} {rest : List Oper} {o : Oper} {a : Act} {Q : Exit → Act → World → Prop}
theorem wpList_mapUpdate_at_s (hg : o.guard = none) (m x v : Operand) (hop : o.op = Op.mapUpdate t m x v) (ht : P.underlying t = some (.map k e)) (hk : P.underlying k = some .string)
    (hm : a.eval m = .map (some r)) (n : ByteArray) (u : α) (hx : a.eval x = .string n) (hv : a.eval v = enc u) (h : SMapAt w r enc l)
    (hK : ∀ w', SMapAt w' r enc (SL.put n u l) → w.mapTurned w' r → wpList P ops Q rest (a.put o.dst undef) w') :
    wpList P ops Q (o :: rest) a w := by
  refine wpList_plain hg fun K' hK' => ?_
  obtain ⟨w', hrun, r1, r2⟩ := h.store (P := P) ht hk n u
  unfold Oper.wp
  simp [execOp, hop, hm, hx, hv, hrun, Result.andThen]
  exact hK' _ _ (hK w' r1 r2)

end
end Go.Proofs.YtbmkdnkiojapbaaDoor
