/-
  The plain law of rules in another order, and of a rule less. No condition.
-/
import Derived.Test.YtbmkdnkiojapbaaDoorPolS
namespace Go.Proofs.YtbmkdnkiojapbaaDoor
open Go.RowKit Go.Lib
set_option linter.unusedVariables false
set_option linter.unusedSimpArgs false

theorem mayGo_iff (c : PC) : ∀ (l : List PR) (s : List ByteArray), mayGo c s l = true ↔ (∀ x ∈ l, namedOk x.name = true ∧ leadsOk c x = true ∧ x.name ∉ s) ∧ (l.map PR.name).Nodup
  | [], s => by simp [mayGo]
  | x :: t, s => by
    simp only [mayGo, Bool.and_eq_true, Bool.not_eq_true', decide_eq_false_iff_not, mayGo_iff c t, List.map_cons, List.nodup_cons, List.mem_cons, List.mem_append, List.mem_singleton, not_or]
    constructor
    · rintro ⟨⟨⟨h1, h2⟩, h3⟩, h4, h5⟩
      refine ⟨fun y hy => ?_, ?_, h5⟩
      · rcases hy with rfl | hy
        · exact ⟨h1, h2, h3⟩
        · exact ⟨(h4 y hy).1, (h4 y hy).2.1, (h4 y hy).2.2.1⟩
      · intro hm
        obtain ⟨y, hy, e⟩ := List.mem_map.1 hm
        exact (h4 y hy).2.2.2.1 e
    · rintro ⟨h1, h2, h3⟩
      have h0 := h1 x (.inl rfl)
      refine ⟨⟨⟨h0.1, h0.2.1⟩, h0.2.2⟩, fun y hy => ⟨(h1 y (.inr hy)).1, (h1 y (.inr hy)).2.1, (h1 y (.inr hy)).2.2, fun e => h2 (by rw [← e]; exact List.mem_map_of_mem hy), by simp⟩, h3⟩
theorem mayL_iff (c : PC) (l : List PR) : mayL c l = true ↔ (∀ x ∈ l, namedOk x.name = true ∧ leadsOk c x = true) ∧ (l.map PR.name).Nodup ∧ l.length ≤ 256 := by
  unfold mayL
  rw [Bool.and_eq_true, mayGo_iff, decide_eq_true_eq]
  constructor
  · rintro ⟨⟨h1, h2⟩, h3⟩
    exact ⟨fun x hx => ⟨(h1 x hx).1, (h1 x hx).2.1⟩, h2, h3⟩
  · rintro ⟨h1, h2, h3⟩
    exact ⟨⟨fun x hx => ⟨(h1 x hx).1, (h1 x hx).2, by simp⟩, h2⟩, h3⟩
theorem mayL_perm {c : PC} {l l' : List PR} (hp : l'.Perm l) (h : mayL c l = true) : mayL c l' = true := by
  rw [mayL_iff] at *
  exact ⟨fun x hx => h.1 x (hp.mem_iff.1 hx), (hp.map _).nodup_iff.2 h.2.1, by rw [hp.length_eq]; exact h.2.2⟩
theorem mayL_sub {c : PC} {l l' : List PR} (hs : l'.Sublist l) (h : mayL c l = true) : mayL c l' = true := by
  rw [mayL_iff] at *
  exact ⟨fun x hx => h.1 x (hs.subset hx), (hs.map _).nodup h.2.1, Nat.le_trans hs.length_le h.2.2⟩
theorem mayL_twice {c : PC} {l : List PR} {x : PR} (hx : x ∈ l) : mayL c (l ++ [x]) = false := by
  apply Bool.eq_false_iff.2
  intro h
  have := ((mayL_iff c _).1 h).2.1
  rw [List.map_append, List.nodup_append] at this
  exact this.2.2 x.name (List.mem_map_of_mem hx) x.name (by simp) rfl
theorem tabN_eq {l : List PR} (hn : (l.map PR.name).Nodup) : ∀ i, tabN l i = (l.take i).map fun x => (x.name, x) := by
  intro i
  induction i with
  | zero => simp [tabN]
  | succ i ih =>
    by_cases hi : i < l.length
    · rw [tabN_next (List.getElem?_eq_getElem hi), ih, put_fresh, List.take_add_one, List.getElem?_eq_getElem hi, List.map_append]
      · simp
      · rw [SL.find_none]
        intro hm
        unfold SL.keys at hm
        rw [List.map_map] at hm
        obtain ⟨y, hy, e⟩ := List.mem_map.1 hm
        have e' : y.name = l[i].name := e
        have hsplit : l.map PR.name = (l.take i).map PR.name ++ l[i].name :: (l.drop (i + 1)).map PR.name := by
          rw [← List.map_cons, ← List.map_append]
          congr 1
          rw [List.getElem_cons_drop, List.take_append_drop]
        rw [hsplit, List.nodup_append] at hn
        exact hn.2.2 _ (List.mem_map_of_mem hy) _ List.mem_cons_self e'
    · have e : tabN l (i + 1) = tabN l i := by unfold tabN; rw [List.take_of_length_le (by omega), List.take_of_length_le (by omega)]
      rw [e, ih, List.take_of_length_le (by omega), List.take_of_length_le (by omega)]
theorem tabL_eq {l : List PR} (hn : (l.map PR.name).Nodup) : tabL l = l.map fun x => (x.name, x) := by
  unfold tabL
  rw [tabN_eq hn, List.take_length]
theorem tabL_keys {l : List PR} (hn : (l.map PR.name).Nodup) : SL.keys (tabL l) = l.map PR.name := by
  rw [tabL_eq hn]
  unfold SL.keys
  rw [List.map_map]
  rfl
theorem tabL_vals {l : List PR} (hn : (l.map PR.name).Nodup) : (tabL l).map (·.2) = l := by
  rw [tabL_eq hn, List.map_map]
  exact List.map_id l
theorem named_size {s : ByteArray} (h : namedOk s = true) : s.size ≤ 1000 := by
  unfold namedOk at h
  rw [Bool.or_eq_true, Bool.and_eq_true] at h
  rcases h with h | ⟨h1, h2⟩
  · have := upB_zero h
    omega
  · have hf := (fold_fine h1).le
    have e : foldB (hostB s) = hostB s := by rw [ba_toList] at h2; simpa using h2
    rw [e] at hf
    have hh : (hostB s).size + 2 ≥ s.size := by
      unfold hostB
      show (trimPrefix s.data.toList [42, 46]).toArray.size + 2 ≥ s.size
      rw [List.size_toArray, size_eq s]
      unfold trimPrefix
      split
      · rw [List.length_drop]; simp; omega
      · omega
    omega
theorem tab_small {c : PC} {l : List PR} (h : mayL c l = true) : ∀ x ∈ tabL l, x.1.size ≤ 1000 := by
  have h' := (mayL_iff c l).1 h
  rw [tabL_eq h'.2.1]
  intro x hx
  obtain ⟨y, hy, rfl⟩ := List.mem_map.1 hx
  exact named_size (h'.1 y hy).1
theorem find_iff {l : List PR} (hn : (l.map PR.name).Nodup) {y : ByteArray} {x : PR} : SL.find y (tabL l) = some x ↔ x ∈ l ∧ x.name = y := by
  constructor
  · intro h
    exact ⟨tabN_mem _ h, tabL_name h⟩
  · rintro ⟨h1, h2⟩
    obtain ⟨x', hx', hn'⟩ := find_of_has (l := l) (y := y) (by unfold hasL; rw [List.any_eq_true]; exact ⟨x, h1, by rw [h2]; simp⟩)
    have hm := tabN_mem _ hx'
    have : x' = x := by
      have e : x'.name = x.name := by rw [hn', h2]
      clear h2 hx' hn'
      induction l with
      | nil => simp at h1
      | cons a t ih =>
        rw [List.map_cons, List.nodup_cons] at hn
        rcases List.mem_cons.1 h1 with ha | ha
        · rcases List.mem_cons.1 hm with hb | hb
          · rw [ha, hb]
          · exact absurd (by rw [← ha, ← e]; exact List.mem_map_of_mem hb) hn.1
        · rcases List.mem_cons.1 hm with hb | hb
          · exact absurd (by rw [← hb, e]; exact List.mem_map_of_mem ha) hn.1
          · exact ih hn.2 ha hb
    rw [← this]; exact hx'
theorem findT_perm {l l' : List PR} (hn : (l.map PR.name).Nodup) (hp : l'.Perm l) (h : ByteArray) : findT (tabL l') h = findT (tabL l) h := by
  unfold findT
  refine findSome_congr _ fun y _ => ?_
  have hn' : (l'.map PR.name).Nodup := (hp.map _).nodup_iff.2 hn
  cases h1 : SL.find y (tabL l) with
  | some x => exact (find_iff hn').2 (by have := (find_iff hn).1 h1; exact ⟨hp.mem_iff.2 this.1, this.2⟩)
  | none =>
    cases h2 : SL.find y (tabL l') with
    | none => rfl
    | some x =>
      have := (find_iff hn').1 h2
      have h3 := (find_iff hn).2 ⟨hp.mem_iff.1 this.1, this.2⟩
      rw [h3] at h1; cases h1
theorem findT_in {T : List (ByteArray × PR)} {h : ByteArray} {x : PR} (hf : findT T h = some x) : ∃ y ∈ namesB h, SL.find y T = some x := by
  obtain ⟨y, hy, hx⟩ := List.exists_of_findSome?_eq_some hf
  exact ⟨y, hy, hx⟩
theorem names_size {h z : ByteArray} (hz : z ∈ namesB h) : z.size ≤ h.size + 1 := by
  unfold namesB at hz
  rcases List.mem_append.1 hz with hz | hz
  · rcases upB_mem hz with rfl | ⟨i, h1, rfl⟩
    · omega
    · rw [suff_size h1]; omega
  · simp at hz
    subst hz
    show 0 ≤ _
    omega
theorem fold_le (s : ByteArray) : (foldB s).size ≤ s.size := by
  cases hi : foldIs s with
  | false => rw [foldB_no hi]; show 0 ≤ _; omega
  | true =>
    unfold foldIs at hi
    obtain ⟨l, hl⟩ := Option.isSome_iff_exists.1 hi
    have e : foldB s = ⟨l.toArray⟩ := by unfold foldB; rw [hl]
    rw [foldL_eq] at hl
    obtain ⟨_, _, _, _, h5⟩ := foldA_some hl
    rw [e, h5]
    show (s.data.toList.map lowerB).toArray.size ≤ s.size
    rw [List.size_toArray, List.length_map, ← size_eq]
    exact Nat.le_refl _
/-- the rules but the one at place k -/
def lessL (l : List PR) (k : Nat) : List PR := l.take k ++ l.drop (k + 1)
theorem less_sub (l : List PR) (k : Nat) : (lessL l k).Sublist l := by
  unfold lessL
  conv => rhs; rw [← List.take_append_drop k l]
  exact List.Sublist.append (List.Sublist.refl _) (by rw [← List.drop_drop]; exact List.drop_sublist _ _)
theorem less_mem {l : List PR} {k : Nat} {y x : PR} (hk : l[k]? = some x) : y ∈ l ↔ y ∈ lessL l k ∨ y = x := by
  have hlt := (List.getElem?_eq_some_iff.1 hk).1
  have hx := (List.getElem?_eq_some_iff.1 hk).2
  have hs : l = l.take k ++ x :: l.drop (k + 1) := by
    rw [← hx, List.getElem_cons_drop, List.take_append_drop]
  unfold lessL
  constructor
  · intro h
    rw [hs] at h
    rcases List.mem_append.1 h with h | h
    · exact .inl (List.mem_append_left _ h)
    · rcases List.mem_cons.1 h with h | h
      · exact .inr h
      · exact .inl (List.mem_append_right _ h)
  · rintro (h | rfl)
    · exact (less_sub l k).subset h
    · exact List.mem_of_getElem? hk
theorem less_not {l : List PR} (hn : (l.map PR.name).Nodup) {k : Nat} {x : PR} (hk : l[k]? = some x) : ∀ y ∈ lessL l k, ¬ y.name = x.name := by
  have hlt := (List.getElem?_eq_some_iff.1 hk).1
  have hx := (List.getElem?_eq_some_iff.1 hk).2
  have hs : l = l.take k ++ x :: l.drop (k + 1) := by
    rw [← hx, List.getElem_cons_drop, List.take_append_drop]
  rw [hs, List.map_append, List.map_cons, List.nodup_append, List.nodup_cons] at hn
  intro y hy e
  unfold lessL at hy
  rcases List.mem_append.1 hy with h | h
  · exact hn.2.2 _ (List.mem_map_of_mem h) _ List.mem_cons_self e
  · exact hn.2.1.1 (by rw [← e]; exact List.mem_map_of_mem h)
theorem less_find {l : List PR} (hn : (l.map PR.name).Nodup) {k : Nat} {x : PR} (hk : l[k]? = some x) (y : ByteArray) : SL.find y (tabL (lessL l k)) = if y = x.name then none else SL.find y (tabL l) := by
  have hn' : ((lessL l k).map PR.name).Nodup := ((less_sub l k).map _).nodup hn
  split
  · rename_i e
    cases h : SL.find y (tabL (lessL l k)) with
    | none => rfl
    | some z =>
      have := (find_iff hn').1 h
      exact absurd (by rw [this.2, e]) (less_not hn hk z this.1)
  · rename_i e
    cases h1 : SL.find y (tabL l) with
    | some z =>
      have := (find_iff hn).1 h1
      rcases (less_mem hk).1 this.1 with h2 | h2
      · exact (find_iff hn').2 ⟨h2, this.2⟩
      · exact absurd (by rw [← this.2, h2]) e
    | none =>
      cases h2 : SL.find y (tabL (lessL l k)) with
      | none => rfl
      | some z =>
        have := (find_iff hn').1 h2
        have h3 := (find_iff hn).2 ⟨(less_sub l k).subset this.1, this.2⟩
        rw [h3] at h1; cases h1
theorem findSome_less {F G : ByteArray → Option PR} {kn : ByteArray} (hG : ∀ y, G y = if y = kn then none else F y) (hF : ∀ y x, F y = some x → x.name = y) : ∀ (N : List ByteArray), (∀ x, N.findSome? F = some x → ¬ x.name = kn) → N.findSome? G = N.findSome? F
  | [], _ => rfl
  | y :: t, h => by
    rw [List.findSome?_cons, List.findSome?_cons, hG]
    rw [List.findSome?_cons] at h
    cases hy : F y with
    | some x =>
      rw [hy] at h
      have h1 := h x rfl
      rw [if_neg (fun e => h1 (by rw [hF y x hy, e]))]
    | none =>
      rw [hy] at h
      have := findSome_less hG hF t h
      split
      · rename_i e; split at e
        · cases e
        · cases e
      · exact this
/-- a rule less, which was not the name's: the same -/
theorem less_other {l : List PR} (hn : (l.map PR.name).Nodup) {k : Nat} {x : PR} (hk : l[k]? = some x) {h : ByteArray} (ho : ∀ r, findT (tabL l) h = some r → ¬ r.name = x.name) : findT (tabL (lessL l k)) h = findT (tabL l) h := by
  unfold findT
  exact findSome_less (fun y => less_find hn hk y) (fun y z hz => tabL_name hz) _ ho
/-- a rule less, which was the name's: a less near one, or none -/
theorem less_own {l : List PR} (hn : (l.map PR.name).Nodup) {k : Nat} {x : PR} (hk : l[k]? = some x) {name : ByteArray} : findT (tabL (lessL l k)) (foldB name) = none ∨ ∃ y, findT (tabL (lessL l k)) (foldB name) = some y ∧ ¬ y.name = x.name ∧ y.name.size < name.size + 3 := by
  cases hf : findT (tabL (lessL l k)) (foldB name) with
  | none => exact .inl rfl
  | some y =>
    right
    refine ⟨y, rfl, less_not hn hk y (findT_mem hf), ?_⟩
    obtain ⟨z, hz, hx⟩ := findT_in hf
    have h1 := names_size hz
    have h2 := fold_le name
    rw [tabL_name hx]
    omega
theorem names_nil {z : ByteArray} (h : z ∈ namesB ⟨#[]⟩) : z = ⟨#[]⟩ := by
  unfold namesB at h
  rcases List.mem_append.1 h with h | h
  · have e : upB ⟨#[]⟩ (ByteArray.size ⟨#[]⟩) = [] := by
      show upB ⟨#[]⟩ 0 = []
      unfold upB
      rw [if_pos (by rw [Lib.toList_data]; rfl)]
    rw [e] at h
    simp at h
  · simpa using h
/-- .. and a name that is found again is short -/
theorem less_short {l : List PR} (hn : (l.map PR.name).Nodup) {k : Nat} {x : PR} (hk : l[k]? = some x) {name : ByteArray} {r y : PR} (ho : findT (tabL l) (foldB name) = some r) (hr : r.name = x.name) (hy : findT (tabL (lessL l k)) (foldB name) = some y) : name.size ≤ 253 := by
  cases hi : foldIs name with
  | true =>
    unfold foldIs at hi
    obtain ⟨q, hq⟩ := Option.isSome_iff_exists.1 hi
    rw [foldL_eq] at hq
    obtain ⟨_, h2, _⟩ := foldA_some hq
    rw [size_eq]; exact h2
  | false =>
    rw [foldB_no hi] at ho hy
    obtain ⟨z1, hz1, h1⟩ := findT_in ho
    obtain ⟨z2, hz2, h2⟩ := findT_in hy
    have e1 := names_nil hz1
    have e2 := names_nil hz2
    have n1 := tabL_name h1
    have n2 := tabL_name h2
    exact absurd (by rw [n2, e2, ← hr, n1, e1]) (less_not hn hk y (findT_mem hy))
/-- the rules from place k on, and then those ahead of it -/
theorem turn_perm (l : List PR) (k : Nat) : (l.drop k ++ l.take k).Perm l := by
  conv => rhs; rw [← List.take_append_drop k l]
  exact List.perm_append_comm
end Go.Proofs.YtbmkdnkiojapbaaDoor
