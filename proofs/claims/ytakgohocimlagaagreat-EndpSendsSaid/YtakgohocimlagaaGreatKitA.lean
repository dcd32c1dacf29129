/-
  Plain helper laws, of no program: a map in memory read as an association list with integer keys (look-up, store, delete, length), at the run and at the operation. No condition.
-/
import Derived.WalkKit
import Derived.WalkLawsBesides
import Derived.WalkSpells
import Derived.Maps.OwnSet
import Derived.Maps.RangeRun
namespace Go.Proofs.YtakgohocimlagaaGreat
open Go.RowKit

/-! ### association lists -/
namespace AL
variable {α : Type}
def find (k : Int) : List (Int × α) → Option α
  | [] => none
  | x :: r => if x.1 = k then some x.2 else find k r
def put (k : Int) (v : α) : List (Int × α) → List (Int × α)
  | [] => [(k, v)]
  | x :: r => if x.1 = k then (k, v) :: r else x :: put k v r
def del (k : Int) : List (Int × α) → List (Int × α)
  | [] => []
  | x :: r => if x.1 = k then r else x :: del k r
def keys (l : List (Int × α)) : List Int := l.map (·.1)
theorem find_none {k : Int} {l : List (Int × α)} : find k l = none ↔ k ∉ keys l := by
  induction l with
  | nil => simp [find, keys]
  | cons x r ih =>
    simp only [find, keys, List.map_cons, List.mem_cons, not_or]
    by_cases h : x.1 = k
    · simp [h]
    · simp only [h, if_false]
      rw [ih]
      simp only [keys]
      exact ⟨fun h' => ⟨fun e => h e.symm, h'⟩, fun h' => h'.2⟩
theorem keys_nil : keys ([] : List (Int × α)) = [] := rfl
theorem keys_cons (x : Int × α) (r : List (Int × α)) : keys (x :: r) = x.1 :: keys r := rfl
theorem keys_put (k : Int) (v : α) (l : List (Int × α)) : keys (put k v l) = if k ∈ keys l then keys l else keys l ++ [k] := by
  induction l with
  | nil => simp [put, keys_nil, keys_cons]
  | cons x r ih =>
    simp only [put]
    by_cases h : x.1 = k
    · simp [h, keys_cons]
    · simp only [h, if_false, keys_cons, List.mem_cons]
      rw [ih]
      have h' : ¬ k = x.1 := fun e => h e.symm
      by_cases hm : k ∈ keys r
      · simp [hm]
      · simp [hm, h']
theorem keys_del (k : Int) (l : List (Int × α)) : keys (del k l) = (keys l).erase k := by
  induction l with
  | nil => simp [del, keys]
  | cons x r ih =>
    simp only [del]
    by_cases h : x.1 = k
    · simp [h, keys]
    · simp only [h, if_false, keys, List.map_cons] at ih ⊢
      rw [List.erase_cons_tail (by simpa using h), ih]
theorem find_put (k j : Int) (v : α) (l : List (Int × α)) : find j (put k v l) = if j = k then some v else find j l := by
  induction l with
  | nil => simp only [put, find]; by_cases h : j = k <;> simp [h]; intro e; exact absurd e.symm h
  | cons x r ih =>
    simp only [put]
    by_cases h : x.1 = k
    · simp only [h, if_true, find]
      by_cases hj : j = k
      · simp [hj]
      · have hj' : ¬ k = j := fun e => hj e.symm
        simp [hj, hj']
    · simp only [h, if_false, find, ih]
      by_cases hj : j = k
      · simp [hj, h]
      · simp [hj]
theorem find_del (k j : Int) {l : List (Int × α)} (hn : (keys l).Nodup) : find j (del k l) = if j = k then none else find j l := by
  induction l with
  | nil => simp [del, find]
  | cons x r ih =>
    simp only [keys, List.map_cons, List.nodup_cons] at hn
    simp only [del]
    by_cases h : x.1 = k
    · simp only [h, if_true, find]
      by_cases hj : j = k
      · subst hj
        simp only [if_true]
        exact find_none.2 (by rw [← h]; exact hn.1)
      · have hj' : ¬ k = j := fun e => hj e.symm
        simp [hj, hj']
    · simp only [h, if_false, find, ih hn.2]
      by_cases hj : j = k
      · simp [hj, h]
      · simp [hj]
theorem nodup_put (k : Int) (v : α) {l : List (Int × α)} (hn : (keys l).Nodup) : (keys (put k v l)).Nodup := by
  rw [keys_put]
  split
  · exact hn
  · rename_i h
    exact List.nodup_append.2 ⟨hn, by simp, fun a ha b hb => by simp at hb; subst hb; intro e; subst e; exact h ha⟩
theorem nodup_del (k : Int) {l : List (Int × α)} (hn : (keys l).Nodup) : (keys (del k l)).Nodup := by
  rw [keys_del]; exact hn.erase k
end AL

/-! ### a map's block -/
/-- The entries' stamps: no two alike, each below the clock. -/
def Stamps (es : Array MapEntry) (clock : Nat) : Prop := (es.toList.map (·.born)).Nodup ∧ ∀ x ∈ es.toList, x.born < clock
theorem Stamps.push {es : Array MapEntry} {clock : Nat} (h : Stamps es clock) (k v : Value) : Stamps (es.push { key := k, val := v, born := clock }) (clock + 1) := by
  obtain ⟨h1, h2⟩ := h
  constructor
  · simp only [Array.toList_push, List.map_append, List.map_cons, List.map_nil]
    refine List.nodup_append.2 ⟨h1, by simp, fun a ha b hb => ?_⟩
    simp only [List.mem_singleton] at hb
    obtain ⟨x, hx, rfl⟩ := List.mem_map.1 ha
    have := h2 x hx
    omega
  · intro x hx
    simp only [Array.toList_push, List.mem_append, List.mem_singleton] at hx
    rcases hx with hx | rfl
    · have := h2 x hx; omega
    · simp
theorem Stamps.modify {es : Array MapEntry} {clock : Nat} (h : Stamps es clock) (j : Nat) (k v : Value) : Stamps (es.modify j fun e => { e with key := k, val := v }) clock := by
  have hb : ∀ (l : List MapEntry) (j : Nat), (l.modify j fun e => { e with key := k, val := v }).map (·.born) = l.map (·.born) := by
    intro l
    induction l with
    | nil => intro j; cases j <;> simp
    | cons e r ih => intro j; cases j with
      | zero => simp
      | succ j => simp [ih]
  obtain ⟨h1, h2⟩ := h
  constructor
  · rw [Array.toList_modify, hb]; exact h1
  · intro x hx
    have : x.born ∈ (es.modify j fun e => { e with key := k, val := v }).toList.map (·.born) := List.mem_map.2 ⟨x, hx, rfl⟩
    rw [Array.toList_modify, hb] at this
    obtain ⟨y, hy, hyb⟩ := List.mem_map.1 this
    rw [← hyb]; exact h2 y hy
theorem eraseIdx_toList (es : Array MapEntry) (j : Nat) : (es.eraseIdxIfInBounds j).toList = es.toList.eraseIdx j := by
  unfold Array.eraseIdxIfInBounds
  split
  · simp
  · rename_i hj
    rw [List.eraseIdx_of_length_le (by simpa using hj)]
theorem Stamps.erase {es : Array MapEntry} {clock : Nat} (h : Stamps es clock) (j : Nat) : Stamps (es.eraseIdxIfInBounds j) clock := by
  obtain ⟨h1, h2⟩ := h
  have hs : (es.eraseIdxIfInBounds j).toList.Sublist es.toList := by rw [eraseIdx_toList]; exact List.eraseIdx_sublist _ _
  exact ⟨(hs.map _).nodup h1, fun x hx => h2 x (hs.subset hx)⟩

/-- BLOCK r OF w IS A MAP WHOSE ENTRIES, IN THE ORDER OF THEIR MAKING, ARE l. -/
def MapAt {α : Type} (w : World) (r : Nat) (kk : IntKind) (enc : α → Value) (l : List (Int × α)) : Prop :=
  ∃ es clock, w.heap[r]? = some (.map es clock) ∧ es.toList.map (fun e => (e.key, e.val)) = l.map (fun x => (Value.int kk x.1, enc x.2)) ∧ Stamps es clock

section
variable {α : Type} {P : Program} {w : World} {r : Nat} {kk : IntKind} {enc : α → Value} {l : List (Int × α)} {t k e : TypeId}

theorem MapAt.of_heap {w' : World} (h : MapAt w r kk enc l) (hh : w'.heap[r]? = w.heap[r]?) : MapAt w' r kk enc l := by
  obtain ⟨es, clock, h1, h2⟩ := h
  exact ⟨es, clock, hh.trans h1, h2⟩
theorem MapAt.lt (h : MapAt w r kk enc l) : r < w.heap.size := by
  obtain ⟨es, clock, h1, _⟩ := h
  exact (Array.getElem?_eq_some_iff.1 h1).1
theorem MapAt.made (w : World) (kk : IntKind) (enc : α → Value) : MapAt (w.alloc (.map #[] 0)) w.heap.size kk enc [] :=
  ⟨#[], 0, (MapKept.heap_alloc w _).1, by simp, by simp [Stamps]⟩

theorem findNow_al (n : Int) : ∀ (es : List MapEntry) (l : List (Int × α)) (i : Nat), es.map (fun e => (e.key, e.val)) = l.map (fun x => (Value.int kk x.1, enc x.2)) →
    (Instr.findNow (.int kk) (.int kk n) es i = some none ∧ AL.find n l = none) ∨
    ∃ j v, Instr.findNow (.int kk) (.int kk n) es i = some (some (i + j, enc v)) ∧ AL.find n l = some v ∧ j < l.length ∧ (l[j]?).map (·.1) = some n ∧ (∀ x ∈ l.take j, x.1 ≠ n)
  | [], l, i, h => by
    cases l with
    | nil => exact .inl ⟨rfl, rfl⟩
    | cons x r => simp at h
  | e :: es, l, i, h => by
    cases l with
    | nil => simp at h
    | cons x r =>
      simp only [List.map_cons, List.cons.injEq, Prod.mk.injEq] at h
      obtain ⟨⟨hk, hv⟩, hr⟩ := h
      by_cases hx : x.1 = n
      · refine .inr ⟨0, x.2, ?_, ?_, by simp, by simp [hx], by simp⟩
        · simp [Instr.findNow, Instr.sameNow, hk, hv, hx]
        · simp [AL.find, hx]
      · have hx' : (n == x.1) = false := by simpa using fun e => hx e.symm
        have hstep : Instr.findNow (.int kk) (.int kk n) (e :: es) i = Instr.findNow (.int kk) (.int kk n) es (i + 1) := by
          simp [Instr.findNow, Instr.sameNow, hk, hx']
        rw [hstep]
        rcases findNow_al n es r (i + 1) hr with ⟨h1, h2⟩ | ⟨j, v, h1, h2, h3, h4, h5⟩
        · exact .inl ⟨h1, by simp [AL.find, hx, h2]⟩
        · refine .inr ⟨j + 1, v, by rw [h1]; simp; omega, by simp [AL.find, hx, h2], by simp; omega, by simpa using h4, ?_⟩
          intro y hy
          simp only [List.take_succ_cons, List.mem_cons] at hy
          rcases hy with rfl | hy
          · exact hx
          · exact h5 y hy

theorem run_checkKey_int (hk : P.underlying k = some (.int kk)) (em : Bool) (n : Int) (w : World) : (Instr.checkKey em 10000 k (.int kk n)).run P w = .ok () w := 
  by
  have := MapKept.run_checkKey (P := P) (w := w) (k := .int kk n) hk (by simp [MapKept.IsKey]) em 9999
  exact this

theorem run_findKey_al (hk : P.underlying k = some (.int kk)) (n : Int) {es : List MapEntry} {l : List (Int × α)} (h : es.map (fun e => (e.key, e.val)) = l.map (fun x => (Value.int kk x.1, enc x.2))) (w : World) :
    ((Instr.findKey k (.int kk n) es).run P w = .ok none w ∧ AL.find n l = none) ∨
    ∃ j v, (Instr.findKey k (.int kk n) es).run P w = .ok (some (j, enc v)) w ∧ AL.find n l = some v ∧ j < l.length ∧ (l[j]?).map (·.1) = some n ∧ (∀ x ∈ l.take j, x.1 ≠ n) := by
  rcases findNow_al n es l 0 h with ⟨h1, h2⟩ | ⟨j, v, h1, h2, h3, h4⟩
  · exact .inl ⟨by simp [Instr.findKey, run_underlying hk, h1, Result.andThen], h2⟩
  · exact .inr ⟨j, v, by simp [Instr.findKey, run_underlying hk, h1, Result.andThen], h2, h3, h4⟩

/-- 'm[k]', with 'ok' or without. -/
theorem MapAt.look (h : MapAt w r kk enc l) (ht : P.underlying t = some (.map k e)) (hk : P.underlying k = some (.int kk)) {z : Value} (hz : ∀ w, (zeroValue e).run P w = .ok z w) (n : Int) (w' : World) (hw : w'.heap[r]? = w.heap[r]?) (c : Bool) :
    (Instr.lookup t (.map (some r)) (.int kk n) c).run P w' = .ok (if c then .tuple #[((AL.find n l).map enc).getD z, .bool (AL.find n l).isSome] else ((AL.find n l).map enc).getD z) w' := by
  obtain ⟨es, clock, hb, hl, _⟩ := h
  have hb' : w'.heap[r]? = some (.map es clock) := hw.trans hb
  rcases run_findKey_al (P := P) hk n hl w' with ⟨h1, h2⟩ | ⟨j, v, h1, h2, _⟩
  · simp [Instr.lookup, run_underlying ht, MapKept.run_getObj_map hb', run_checkKey_int hk, h1, h2, hz, Result.andThen]
  · simp [Instr.lookup, run_underlying ht, MapKept.run_getObj_map hb', run_checkKey_int hk, h1, h2, Result.andThen]

theorem map_modify_al {es : Array MapEntry} {l : List (Int × α)} {n : Int} {v : α} {j : Nat} (h : es.toList.map (fun e => (e.key, e.val)) = l.map (fun x => (Value.int kk x.1, enc x.2)))
    (h4 : (l[j]?).map (·.1) = some n) (h5 : ∀ x ∈ l.take j, x.1 ≠ n) :
    (es.modify j fun e => { e with key := .int kk n, val := enc v }).toList.map (fun e => (e.key, e.val)) = (AL.put n v l).map (fun x => (Value.int kk x.1, enc x.2)) := by
  have key : ∀ (l : List (Int × α)) (es : List MapEntry) (j : Nat), es.map (fun e => (e.key, e.val)) = l.map (fun x => (Value.int kk x.1, enc x.2)) → (l[j]?).map (·.1) = some n → (∀ x ∈ l.take j, x.1 ≠ n) →
      (es.modify j fun e => { e with key := .int kk n, val := enc v }).map (fun e => (e.key, e.val)) = (AL.put n v l).map (fun x => (Value.int kk x.1, enc x.2)) := by
    intro l
    induction l with
    | nil => intro es j h h4; simp at h4
    | cons x r ih =>
      intro es j h h4 h5
      cases es with
      | nil => simp at h
      | cons e es =>
        simp only [List.map_cons, List.cons.injEq, Prod.mk.injEq] at h
        cases j with
        | zero =>
          simp at h4
          simp [AL.put, h4, h.2]
        | succ j =>
          have hx : x.1 ≠ n := h5 x (by simp)
          simp only [List.modify_succ_cons, List.map_cons, AL.put, hx, if_false, List.cons.injEq, Prod.mk.injEq]
          refine ⟨h.1, ih es j h.2 (by simpa using h4) (fun y hy => h5 y (by simp [hy]))⟩
  rw [Array.toList_modify]
  exact key l es.toList j h h4 h5

theorem push_al {es : Array MapEntry} {l : List (Int × α)} {n : Int} {v : α} {c : Nat} (h : es.toList.map (fun e => (e.key, e.val)) = l.map (fun x => (Value.int kk x.1, enc x.2)))
    (h4 : AL.find n l = none) :
    (es.push { key := .int kk n, val := enc v, born := c }).toList.map (fun e => (e.key, e.val)) = (AL.put n v l).map (fun x => (Value.int kk x.1, enc x.2)) := by
  have e1 : AL.put n v l = l ++ [(n, v)] := by
    clear h
    induction l with
    | nil => rfl
    | cons x r ih =>
      simp only [AL.find] at h4
      by_cases hx : x.1 = n
      · simp [hx] at h4
      · simp only [hx, if_false] at h4
        simp [AL.put, hx, ih h4]
  rw [e1]
  simp [h]

theorem erase_al {es : Array MapEntry} {l : List (Int × α)} {n : Int} {j : Nat} (h : es.toList.map (fun e => (e.key, e.val)) = l.map (fun x => (Value.int kk x.1, enc x.2)))
    (h4 : (l[j]?).map (·.1) = some n) (h5 : ∀ x ∈ l.take j, x.1 ≠ n) :
    (es.eraseIdxIfInBounds j).toList.map (fun e => (e.key, e.val)) = (AL.del n l).map (fun x => (Value.int kk x.1, enc x.2)) := by
  have key : ∀ (l : List (Int × α)) (es : List MapEntry) (j : Nat), es.map (fun e => (e.key, e.val)) = l.map (fun x => (Value.int kk x.1, enc x.2)) → (l[j]?).map (·.1) = some n → (∀ x ∈ l.take j, x.1 ≠ n) →
      (es.eraseIdx j).map (fun e => (e.key, e.val)) = (AL.del n l).map (fun x => (Value.int kk x.1, enc x.2)) := by
    intro l
    induction l with
    | nil => intro es j h h4; simp at h4
    | cons x r ih =>
      intro es j h h4 h5
      cases es with
      | nil => simp at h
      | cons e es =>
        simp only [List.map_cons, List.cons.injEq, Prod.mk.injEq] at h
        cases j with
        | zero =>
          simp at h4
          simp [AL.del, h4, h.2]
        | succ j =>
          have hx : x.1 ≠ n := h5 x (by simp)
          simp only [List.eraseIdx_cons_succ, List.map_cons, AL.del, hx, if_false, List.cons.injEq, Prod.mk.injEq]
          refine ⟨h.1, ih es j h.2 (by simpa using h4) (fun y hy => h5 y (by simp [hy]))⟩
  have e1 : (es.eraseIdxIfInBounds j).toList = es.toList.eraseIdx j := by
    unfold Array.eraseIdxIfInBounds
    split
    · simp
    · rename_i hj
      rw [List.eraseIdx_of_length_le (by simpa using hj)]
  rw [e1]
  exact key l es.toList j h h4 h5

theorem del_none {n : Int} (h4 : AL.find n l = none) : AL.del n l = l := by
  induction l with
  | nil => rfl
  | cons x r ih =>
    simp only [AL.find] at h4
    by_cases hx : x.1 = n
    · simp [hx] at h4
    · simp only [hx, if_false] at h4
      simp [AL.del, hx, ih h4]

/-- 'm[k] = v'. -/
theorem MapAt.store (h : MapAt w r kk enc l) (ht : P.underlying t = some (.map k e)) (hk : P.underlying k = some (.int kk)) (n : Int) (v : α) :
    ∃ w', (Instr.mapUpdate t (.map (some r)) (.int kk n) (enc v)).run P w = .ok () w' ∧ MapAt w' r kk enc (AL.put n v l) ∧ w.mapTurned w' r := by
  obtain ⟨es, clock, hb, hl, hst⟩ := h
  rcases run_findKey_al (P := P) hk n hl w with ⟨h1, h2⟩ | ⟨j, v0, h1, h2, h3, h4, h5⟩
  · exact ⟨_, by simp [Instr.mapUpdate, run_underlying ht, MapKept.run_getObj_map hb, run_checkKey_int hk, h1, MapKept.run_setObj_map _ hb, Result.andThen]; rfl, ⟨_, _, ChangeMaps.heap_setBlock_same hb _, push_al hl h2, hst.push _ _⟩, ⟨es, clock, _, _, hb, rfl⟩⟩
  · have hkey : ((es[j]?).map (·.key)).getD (Value.int kk n) = .int kk n := by
      have hj : (es.toList.map (fun e => (e.key, e.val)))[j]? = (l.map (fun x => (Value.int kk x.1, enc x.2)))[j]? := by rw [hl]
      simp only [List.getElem?_map, Array.getElem?_toList] at hj
      obtain ⟨x, hx, hx1⟩ := Option.map_eq_some_iff.1 h4
      rw [hx] at hj
      obtain ⟨e0, he0, he1⟩ := Option.map_eq_some_iff.1 hj
      rw [he0]
      simp only [Prod.mk.injEq] at he1
      simp [he1.1, hx1]
    have hks : (Instr.keyThatStays (.int kk n) (.int kk n)).run P w = .ok (.int kk n) w := MapKept.run_keyThatStays (d := .int kk) (by simp [MapKept.IsKey])
    exact ⟨_, by simp [Instr.mapUpdate, run_underlying ht, MapKept.run_getObj_map hb, run_checkKey_int hk, h1, hkey, hks, MapKept.run_setObj_map _ hb, Result.andThen]; rfl, ⟨_, _, ChangeMaps.heap_setBlock_same hb _, map_modify_al hl h4 h5, hst.modify _ _ _⟩, ⟨es, clock, _, _, hb, rfl⟩⟩

/-- 'delete(m, k)'. -/
theorem MapAt.drop (h : MapAt w r kk enc l) (ht : P.underlying t = some (.map k e)) (hk : P.underlying k = some (.int kk)) (n : Int) (ty : TypeId) :
    ∃ w', (Builtin.delete_ #[t, k] ty #[.map (some r), .int kk n]).run P w = .ok (.tuple #[]) w' ∧ MapAt w' r kk enc (AL.del n l) ∧ w.mapTurned w' r := by
  obtain ⟨es, clock, hb, hl, hst⟩ := h
  rcases run_findKey_al (P := P) hk n hl w with ⟨h1, h2⟩ | ⟨j, v0, h1, h2, h3, h4, h5⟩
  · exact ⟨_, by simp [Builtin.delete_, run_underlying ht, MapKept.run_getObj_map hb, run_checkKey_int hk, h1, MapKept.run_setObj_map _ hb, Result.andThen]; rfl, ⟨_, _, ChangeMaps.heap_setBlock_same hb _, by rw [del_none h2]; exact hl, hst⟩, ⟨es, clock, _, _, hb, rfl⟩⟩
  · exact ⟨_, by simp [Builtin.delete_, run_underlying ht, MapKept.run_getObj_map hb, run_checkKey_int hk, h1, MapKept.run_setObj_map _ hb, Result.andThen]; rfl, ⟨_, _, ChangeMaps.heap_setBlock_same hb _, erase_al hl h4 h5, hst.erase _⟩, ⟨es, clock, _, _, hb, rfl⟩⟩

/-- 'len(m)'. -/
theorem MapAt.len (h : MapAt w r kk enc l) (ht : P.underlying t = some (.map k e)) (ty : TypeId) : (Builtin.len_ #[t] ty #[.map (some r)]).run P w = .ok (.int .i64 l.length) w := by
  obtain ⟨es, clock, hb, hl, _⟩ := h
  have hlen : es.size = l.length := by simpa using congrArg List.length hl
  simp [Builtin.len_, run_underlying ht, MapKept.run_getObj_map hb, goInt, hlen, Result.andThen]

/-! ### at the operation, for the walk -/
variable {ops : Array Oper} {rest : List Oper} {o : Oper} {a : Act} {Q : Exit → Act → World → Prop}
theorem wpList_mapUpdate_at (hg : o.guard = none) (m x v : Operand) (hop : o.op = Op.mapUpdate t m x v) (ht : P.underlying t = some (.map k e)) (hk : P.underlying k = some (.int kk))
    (hm : a.eval m = .map (some r)) (n : Int) (u : α) (hx : a.eval x = .int kk n) (hv : a.eval v = enc u) (h : MapAt w r kk enc l)
    (hK : ∀ w', MapAt w' r kk enc (AL.put n u l) → w.mapTurned w' r → wpList P ops Q rest (a.put o.dst undef) w') :
    wpList P ops Q (o :: rest) a w := by
  refine wpList_plain hg fun K' hK' => ?_
  obtain ⟨w', hrun, r1, r2⟩ := h.store (P := P) ht hk n u
  unfold Oper.wp
  simp [execOp, hop, hm, hx, hv, hrun, Result.andThen]
  exact hK' _ _ (hK w' r1 r2)
theorem wpList_delete_at (hg : o.guard = none) (m x : Operand) (hop : o.op = Op.call { callee := Callee.builtin Builtin.delete, args := #[m, x], argTypes := #[t, k] }) (ht : P.underlying t = some (.map k e)) (hk : P.underlying k = some (.int kk))
    (hm : a.eval m = .map (some r)) (n : Int) (hx : a.eval x = .int kk n) (h : MapAt w r kk enc l)
    (hK : ∀ w', MapAt w' r kk enc (AL.del n l) → w.mapTurned w' r → wpList P ops Q rest (a.put o.dst (.tuple #[])) w') :
    wpList P ops Q (o :: rest) a w := by
  refine wpList_plain hg fun K' hK' => ?_
  obtain ⟨w', hrun, r1, r2⟩ := h.drop (P := P) ht hk n o.type
  unfold Oper.wp
  simp [execOp, hop, resolve, invoke, builtin, hm, hx, hrun, Result.andThen]
  exact hK' _ _ (hK w' r1 r2)
end

/-! ### what a call leaves alone -/
/-- w' IS w BUT FOR NEW BLOCKS AND THE BLOCKS OF S. -/
structure Keeps (S : List Nat) (w w' : World) : Prop where
  os : w'.os = w.os
  tape : w'.tape = w.tape
  output : w'.output = w.output
  size : w.heap.size ≤ w'.heap.size
  block : ∀ k, k < w.heap.size → k ∉ S → w'.heap[k]? = w.heap[k]?
theorem Keeps.refl (S : List Nat) (w : World) : Keeps S w w := ⟨rfl, rfl, rfl, Nat.le_refl _, fun _ _ _ => rfl⟩
theorem Keeps.trans {S : List Nat} {a b c : World} (h : Keeps S a b) (k : Keeps S b c) : Keeps S a c :=
  ⟨k.os.trans h.os, k.tape.trans h.tape, k.output.trans h.output, Nat.le_trans h.size k.size, fun i hi hS => (k.block i (Nat.lt_of_lt_of_le hi h.size) hS).trans (h.block i hi hS)⟩
theorem Keeps.mono {S T : List Nat} {w w' : World} (h : Keeps S w w') (hT : ∀ x ∈ S, x ∈ T) : Keeps T w w' :=
  ⟨h.os, h.tape, h.output, h.size, fun i hi hS => h.block i hi (fun hx => hS (hT i hx))⟩
/-- Blocks that were not there at first need not be listed. -/
theorem Keeps.fresh {S T : List Nat} {w w' : World} (h : Keeps S w w') (hT : ∀ x ∈ S, x < w.heap.size → x ∈ T) : Keeps T w w' :=
  ⟨h.os, h.tape, h.output, h.size, fun i hi hS => h.block i hi (fun hx => hS (hT i hx hi))⟩
theorem Keeps.drewN (S : List Nat) (w : World) (n : Nat) : Keeps S w (w.drewN n) := ⟨rfl, rfl, rfl, Nat.le_refl _, fun _ _ _ => rfl⟩
theorem Keeps.drew (S : List Nat) (w : World) : Keeps S w w.drew := ⟨rfl, rfl, rfl, Nat.le_refl _, fun _ _ _ => rfl⟩
theorem Keeps.alloc (S : List Nat) (w : World) (o : Obj) : Keeps S w (w.alloc o) :=
  ⟨rfl, rfl, rfl, by simp, fun k hk _ => Below.heap_alloc _ _ _ hk⟩
theorem Keeps.setCell (w : World) (p : Addr) (u : Value) : Keeps [p.block] w (w.setCell p u) :=
  ⟨rfl, rfl, rfl, by simp [World.setCell], fun k _ hS => Below.heap_setCell _ _ _ _ (by simpa using hS)⟩
theorem Keeps.alloc' {S : List Nat} {w X : World} (h : Keeps S w X) (o : Obj) : Keeps S w (X.alloc o) := h.trans (Keeps.alloc S X o)
theorem Keeps.drew' {S : List Nat} {w X : World} (h : Keeps S w X) : Keeps S w X.drew := h.trans (Keeps.drew S X)
theorem Keeps.drewN' {S : List Nat} {w X : World} (h : Keeps S w X) (n : Nat) : Keeps S w (X.drewN n) := h.trans (Keeps.drewN S X n)
theorem Keeps.setCell' {S : List Nat} {w X : World} (h : Keeps S w X) {p : Addr} (hp : w.heap.size ≤ p.block ∨ p.block ∈ S) (u : Value) : Keeps S w (X.setCell p u) :=
  ⟨h.os, h.tape, h.output, by have := h.size; simp [World.setCell]; exact this, fun k hk hS => by
    rw [Below.heap_setCell _ _ _ _ (by rintro rfl; rcases hp with hp | hp; omega; exact hS hp)]
    exact h.block k hk hS⟩
theorem Keeps.turned {w w' : World} {r : Nat} (h : w.mapTurned w' r) : Keeps [r] w w' := by
  have g := h.grown
  exact ⟨g.os, g.tape, g.output, g.size, fun k hk hS => g.block k hk (fun e => hS (by simp at e; simp [e]))⟩
theorem Keeps.grown {w w' : World} {r : Nat} (g : w.grownBy w' (some r)) : Keeps [r] w w' :=
  ⟨g.os, g.tape, g.output, g.size, fun k hk hS => g.block k hk (fun e => hS (by simp at e; simp [e]))⟩
theorem Keeps.grown0 {w w' : World} (g : w.grownBy w' none) : Keeps [] w w' :=
  ⟨g.os, g.tape, g.output, g.size, fun k hk _ => g.block k hk (by simp)⟩
theorem Keeps.below {w w' : World} {S : List Nat} {B : Nat} (h : Keeps S w w') (hB : B ≤ w.heap.size) (hS : ∀ x ∈ S, B ≤ x) : Below B w w' :=
  ⟨h.os, h.tape, h.output, h.size, fun k hk => h.block k (by omega) (fun hx => by have := hS k hx; omega)⟩
theorem Below.keeps {w w' : World} (h : Below w.heap.size w w') : Keeps [] w w' := ⟨h.os, h.tape, h.output, h.size, fun k hk _ => h.block k hk⟩

theorem heap_setCell_self {w : World} {b : Nat} {cs : Array Value} {t : TypeId} {z : Nat × Nat} (h : w.heap[b]? = some (.cells cs t z)) (k : Nat) (v : Value) :
    (w.setCell ⟨b, k, none⟩ v).heap[b]? = some (.cells (cs.setIfInBounds k v) t z) := by
  simp [World.setCell, Array.getElem?_modify, h]
theorem cell_of_block {w : World} {b : Nat} {cs : Array Value} {t : TypeId} {z : Nat × Nat} (h : w.heap[b]? = some (.cells cs t z)) (k : Nat) : w.cell? ⟨b, k, none⟩ = cs[k]? := by simp [World.cell?, h]
theorem free_of_block {w : World} {b : Nat} {cs : Array Value} {t : TypeId} (h : w.heap[b]? = some (.cells cs t (0, 0))) (k : Nat) : w.frozen? ⟨b, k, none⟩ = false := by simp [World.frozen?, h]
/-! ### ranging over a map that nobody writes -/
/-- A LOOP OVER THE MAP IN BLOCK r BY THE ITERATOR IN BLOCK it IS UNDER WAY: the entries of 'left' are to come. -/
def RangeAt {α : Type} (w : World) (r it : Nat) (kk : IntKind) (enc : α → Value) (l left : List (Int × α)) : Prop :=
  ∃ es clock since seen c0, w.heap[r]? = some (.map es clock) ∧ es.toList.map (fun e => (e.key, e.val)) = l.map (fun x => (Value.int kk x.1, enc x.2)) ∧ Stamps es clock ∧
    w.heap[it]? = some (.mapIter (some r) since seen c0) ∧ (∀ x ∈ es.toList, x.born < since) ∧ since ≤ c0 ∧ since ≤ clock ∧ (leftOf es seen).toList.map (fun e => (e.key, e.val)) = left.map (fun x => (Value.int kk x.1, enc x.2))
section
variable {α : Type} {P : Program} {w : World} {r it : Nat} {kk : IntKind} {enc : α → Value} {l left : List (Int × α)} {t k e : TypeId}
theorem RangeAt.map (h : RangeAt w r it kk enc l left) : MapAt w r kk enc l := by
  obtain ⟨es, clock, since, seen, c0, h1, h2, h3, _⟩ := h
  exact ⟨es, clock, h1, h2, h3⟩
theorem RangeAt.lt (h : RangeAt w r it kk enc l left) : it < w.heap.size := by
  obtain ⟨es, clock, since, seen, c0, _, _, _, h4, _⟩ := h
  exact (Array.getElem?_eq_some_iff.1 h4).1
theorem RangeAt.of_heap {w' : World} (h : RangeAt w r it kk enc l left) (h1 : w'.heap[r]? = w.heap[r]?) (h2 : w'.heap[it]? = w.heap[it]?) : RangeAt w' r it kk enc l left := by
  obtain ⟨es, clock, since, seen, c0, g1, g2, g3, g4, g5⟩ := h
  exact ⟨es, clock, since, seen, c0, h1.trans g1, g2, g3, h2.trans g4, g5⟩
theorem leftOf_nil (es : Array MapEntry) : (leftOf es #[]).toList = es.toList := by
  simp only [leftOf, Array.toList_filter]
  exact List.filter_eq_self.2 (fun _ _ => by simp)
theorem MapAt.range (h : MapAt w r kk enc l) (ht : P.underlying t = some (.map k e)) :
    (Instr.range t (.map (some r))).run P w = .ok (.pointer (some ⟨w.heap.size, 0, none⟩)) (w.alloc (.mapIter (some r) (match w.heap[r]? with | some (.map _ c) => c | _ => 0) #[] (match w.heap[r]? with | some (.map _ c) => c | _ => 0))) ∧
    RangeAt (w.alloc (.mapIter (some r) (match w.heap[r]? with | some (.map _ c) => c | _ => 0) #[] (match w.heap[r]? with | some (.map _ c) => c | _ => 0))) r w.heap.size kk enc l l := by
  have hlt := h.lt
  obtain ⟨es, clock, hb, hl, hst⟩ := h
  refine ⟨?_, ?_⟩
  · rw [hb]; exact run_range_map w t k e r es clock ht hb
  · rw [hb]
    exact ⟨es, clock, clock, #[], clock, ((MapKept.heap_alloc w _).2 r hlt).trans hb, hl, hst, (MapKept.heap_alloc w _).1, hst.2, Nat.le_refl _, Nat.le_refl _, by rw [leftOf_nil]; exact hl⟩
theorem leftOf_push (es : Array MapEntry) (seen : Array Nat) (b : Nat) : (leftOf es (seen.push b)).toList = (leftOf es seen).toList.filter (fun e => !(e.born == b)) := by
  simp only [leftOf, Array.toList_filter, List.filter_filter]
  congr 1
  funext e
  simp only [Array.contains_push]
  cases h1 : seen.contains e.born <;> cases h2 : (e.born == b) <;> simp
theorem nodup_left {es : Array MapEntry} {clock : Nat} (h : Stamps es clock) (seen : Array Nat) : ((leftOf es seen).toList.map (·.born)).Nodup := by
  simp only [leftOf, Array.toList_filter]
  exact (List.Sublist.map _ (List.filter_sublist)).nodup h.1
theorem filter_born {L1 L2 : List MapEntry} {e : MapEntry} (h : ((L1 ++ e :: L2).map (·.born)).Nodup) : (L1 ++ e :: L2).filter (fun x => !(x.born == e.born)) = L1 ++ L2 := by
  simp only [List.map_append, List.map_cons] at h
  obtain ⟨_, h2, h3⟩ := List.nodup_append.1 h
  obtain ⟨h4, _⟩ := List.nodup_cons.1 h2
  rw [List.filter_append, List.filter_cons]
  simp only [beq_self_eq_true, Bool.not_true, Bool.false_eq_true, if_false]
  congr 1
  · refine List.filter_eq_self.2 fun x hx => ?_
    have : x.born ≠ e.born := h3 x.born (List.mem_map.2 ⟨x, hx, rfl⟩) e.born (by simp)
    simpa using this
  · refine List.filter_eq_self.2 fun x hx => ?_
    have : x.born ≠ e.born := fun he => h4 (he ▸ List.mem_map.2 ⟨x, hx, rfl⟩)
    simpa using this
theorem split_map {β γ : Type} {f : β → γ} {m : List γ} {L1 L2 : List β} {e : β} (h : (L1 ++ e :: L2).map f = m) : m = L1.map f ++ f e :: L2.map f := by rw [← h]; simp
theorem RangeAt.next (h : RangeAt w r it kk enc l left) (ty : TypeId) :
    (left = [] ∧ (Instr.next (.pointer (some ⟨it, 0, none⟩)) false ty).run P w = .ok (.tuple #[.bool false]) w) ∨
    ∃ l1 x l2 w', left = l1 ++ x :: l2 ∧ (Instr.next (.pointer (some ⟨it, 0, none⟩)) false ty).run P w = .ok (.tuple #[.bool true, .int kk x.1, enc x.2]) w' ∧
      RangeAt w' r it kk enc l (l1 ++ l2) ∧ Keeps [it] w w' ∧ w'.heap.size = w.heap.size ∧ (Instr.entry (.pointer (some ⟨it, 0, none⟩))).run P w' = .ok (.tuple #[.int kk x.1, enc x.2]) w' := by
  obtain ⟨es, clock, since, seen, c0, hb, hl, hst, hr, hold, hsc, hsk, hleft⟩ := h
  rcases run_next_at (P := P) w ty it r since c0 seen es clock hr hb hold hsc with ⟨h0, hrun⟩ | ⟨e0, he, w1, hw1, hrun⟩
  · left
    have : (leftOf es seen).toList = [] := by rw [← List.length_eq_zero_iff]; simpa using h0
    rw [this] at hleft
    exact ⟨by simpa using hleft, hrun⟩
  · right
    obtain ⟨L1, L2, hL⟩ := List.append_of_mem he
    have hm := hleft
    rw [hL] at hm
    simp only [List.map_append, List.map_cons] at hm
    obtain ⟨m1, m2, rfl, e1, e2⟩ := List.map_eq_append_iff.1 hm.symm
    obtain ⟨x, m3, rfl, e3, e4⟩ := List.map_eq_cons_iff.1 e2
    simp only [Prod.mk.injEq] at e3
    have hne : it ≠ r := by intro e; rw [e, hb] at hr; cases hr
    have hheap : w1.heap = w.heap := by rcases hw1 with rfl | rfl <;> rfl
    have hit1 : w1.heap[it]? = some (.mapIter (some r) since seen c0) := by rw [hheap]; exact hr
    have hes : e0 ∈ es.toList := by
      simp only [leftOf, Array.toList_filter, List.mem_filter] at he
      exact he.1
    have hb1 : (ChangeMaps.setBlock w1 it (.mapIter (some r) since (seen.push e0.born) clock)).heap[r]? = some (.map es clock) := by
      simp only [ChangeMaps.setBlock]
      rw [Array.getElem?_setIfInBounds_ne hne, hheap]; exact hb
    have hi1 : (ChangeMaps.setBlock w1 it (.mapIter (some r) since (seen.push e0.born) clock)).heap[it]? = some (.mapIter (some r) since (seen.push e0.born) clock) := by
      simp only [ChangeMaps.setBlock]
      rw [Array.getElem?_setIfInBounds_self_of_lt (Array.getElem?_eq_some_iff.1 hit1).1]
    refine ⟨m1, x, m3, _, rfl, by rw [hrun, ← e3.1, ← e3.2], ⟨es, clock, since, seen.push e0.born, clock, hb1, hl, hst, hi1, hold, hsk, hsk, ?_⟩, ?_, ?_, ?_⟩
    · rw [leftOf_push, hL, filter_born (by have := nodup_left hst seen; rw [hL] at this; exact this)]
      simp [e1, e4]
    · refine ⟨?_, ?_, ?_, ?_, ?_⟩
      · rcases hw1 with rfl | rfl <;> rfl
      · rcases hw1 with rfl | rfl <;> rfl
      · rcases hw1 with rfl | rfl <;> rfl
      · simp [ChangeMaps.setBlock, hheap]
      · intro k hk hS
        simp only [ChangeMaps.setBlock]
        rw [Array.getElem?_setIfInBounds_ne (by simpa using fun e : it = k => hS (by simp [e])), hheap]
    · simp [ChangeMaps.setBlock, hheap]
    · have := run_entry_at (P := P) _ it r since seen es clock e0 hi1 hb1 hes hst.1
      rw [this, ← e3.1, ← e3.2]
variable {ops : Array Oper} {rest : List Oper} {o : Oper} {a : Act} {Q : Exit → Act → World → Prop}
theorem wpList_range_at (hg : o.guard = none) (m : Operand) (hop : o.op = Op.range t m) (ht : P.underlying t = some (.map k e))
    (hm : a.eval m = .map (some r)) (h : MapAt w r kk enc l)
    (hK : ∀ w', RangeAt w' r w.heap.size kk enc l l → Keeps [] w w' → w'.heap.size = w.heap.size + 1 → wpList P ops Q rest (a.put o.dst (.pointer (some ⟨w.heap.size, 0, none⟩))) w') :
    wpList P ops Q (o :: rest) a w := by
  refine wpList_plain hg fun K' hK' => ?_
  obtain ⟨hrun, hr⟩ := h.range (P := P) ht
  unfold Oper.wp
  simp only [execOp, hop, hm, Sem.run_bind, hrun, Result.andThen, Sem.run_pure, Oper.upon]
  exact hK' _ _ (hK _ hr (Keeps.alloc _ _ _) (by simp))
theorem wpList_next_at (hg : o.guard = none) (i : Operand) (hop : o.op = Op.next i false)
    (hi : a.eval i = .pointer (some ⟨it, 0, none⟩)) (h : RangeAt w r it kk enc l left)
    (hDone : left = [] → wpList P ops Q rest (a.put o.dst (.tuple #[.bool false])) w)
    (hMore : ∀ l1 x l2 w', left = l1 ++ x :: l2 → RangeAt w' r it kk enc l (l1 ++ l2) → Keeps [it] w w' → w'.heap.size = w.heap.size → (Instr.entry (.pointer (some ⟨it, 0, none⟩))).run P w' = .ok (.tuple #[.int kk x.1, enc x.2]) w' →
      wpList P ops Q rest (a.put o.dst (.tuple #[.bool true, .int kk x.1, enc x.2])) w') :
    wpList P ops Q (o :: rest) a w := by
  refine wpList_plain hg fun K' hK' => ?_
  unfold Oper.wp
  rcases h.next (P := P) o.type with ⟨h0, hrun⟩ | ⟨l1, x, l2, w', h0, hrun, hr, hk, hs, he⟩
  · simp only [execOp, hop, hi, Sem.run_bind, hrun, Result.andThen, Sem.run_pure, Oper.upon]
    exact hK' _ _ (hDone h0)
  · simp only [execOp, hop, hi, Sem.run_bind, hrun, Result.andThen, Sem.run_pure, Oper.upon]
    exact hK' _ _ (hMore l1 x l2 w' h0 hr hk hs he)
end

end Go.Proofs.YtakgohocimlagaaGreat
