/-
  The plain law of a rule of a suffix: which names it catches. No condition.
-/
import Derived.Test.YtbmkdnkiojapbaaDoorPolR
namespace Go.Proofs.YtbmkdnkiojapbaaDoor
open Go.RowKit Go.Lib
set_option linter.unusedVariables false
set_option linter.unusedSimpArgs false

/-- a name as Fold leaves it -/
structure Fine (g : ByteArray) : Prop where
  ne : g.data.toList ≠ []
  le : g.size ≤ 253
  em : emptyP true g.data.toList = false
  ok : ∀ b ∈ g.data.toList, goodU b = true ∧ lowerB b = b
set_option maxRecDepth 100000 in
theorem goodU_lower : ∀ i : Fin 256, goodU (UInt8.ofNat i.val) = true → goodU (lowerB (UInt8.ofNat i.val)) = true ∧ lowerB (lowerB (UInt8.ofNat i.val)) = lowerB (UInt8.ofNat i.val) ∧ (lowerB (UInt8.ofNat i.val) = 46 ↔ UInt8.ofNat i.val = 46) := by decide
theorem goodU_low {c : UInt8} (h : goodU c = true) : goodU (lowerB c) = true ∧ lowerB (lowerB c) = lowerB c ∧ (lowerB c = 46 ↔ c = 46) := by
  have := goodU_lower ⟨c.toNat, c.toNat_lt⟩
  simp only [UInt8.ofNat_toNat] at this
  exact this h
theorem emptyP_lower : ∀ (s : List UInt8) (a : Bool), (∀ b ∈ s, goodU b = true) → emptyP a (s.map lowerB) = emptyP a s
  | [], a, _ => rfl
  | c :: t, a, h => by
    have hc := (goodU_low (h c (by simp))).2.2
    have ht := fun x => emptyP_lower t x (fun b hb => h b (by simp [hb]))
    rw [List.map_cons, emptyP, emptyP, ht, ht]
    by_cases e : c = 46
    · rw [if_pos e, if_pos (hc.2 e)]
    · rw [if_neg e, if_neg (fun e2 => e (hc.1 e2))]
theorem fold_fine {s : ByteArray} (h : foldIs s = true) : Fine (foldB s) := by
  unfold foldIs at h
  obtain ⟨l, hl⟩ := Option.isSome_iff_exists.1 h
  have e : foldB s = ⟨l.toArray⟩ := by unfold foldB; rw [hl]
  rw [foldL_eq] at hl
  obtain ⟨h1, h2, h3, h4, h5⟩ := foldA_some hl
  rw [e]
  subst h5
  refine ⟨by simpa using h1, ?_, ?_, ?_⟩
  · show (s.data.toList.map lowerB).toArray.size ≤ 253
    rw [List.size_toArray, List.length_map]; exact h2
  · show emptyP true (s.data.toList.map lowerB) = false
    rw [emptyP_lower _ _ h4]; exact h3
  · intro b hb
    have hb' : b ∈ s.data.toList.map lowerB := hb
    obtain ⟨c, hc, rfl⟩ := List.mem_map.1 hb'
    exact ⟨(goodU_low (h4 c hc)).1, (goodU_low (h4 c hc)).2.1⟩
theorem Fine.fold {g : ByteArray} (h : Fine g) : foldB g = g ∧ foldIs g = true := by
  have e : foldL g.data.toList = some g.data.toList := by
    rw [foldL_eq, foldA_of h.ne (by rw [← size_eq]; exact h.le) h.em (fun b hb => (h.ok b hb).1)]
    congr 1
    conv => rhs; rw [← List.map_id g.data.toList]
    exact List.map_congr_left fun b hb => (h.ok b hb).2
  exact ⟨by unfold foldB; rw [e], by unfold foldIs; rw [e]; rfl⟩
theorem emptyP_join : ∀ (a : List UInt8) (x : Bool) (b : List UInt8), emptyP x (a ++ 46 :: b) = (emptyP x a || emptyP true b)
  | [], x, b => by simp [emptyP]
  | c :: t, x, b => by
    rw [List.cons_append, emptyP, emptyP, emptyP_join t true b, emptyP_join t false b]
    split <;> simp [Bool.or_assoc]
theorem data_join (a g : ByteArray) : (a ++ ⟨#[46]⟩ ++ g).data.toList = a.data.toList ++ 46 :: g.data.toList := by
  rw [ByteArray.data_append, ByteArray.data_append, Array.toList_append, Array.toList_append]
  simp
theorem Fine.join {a g : ByteArray} (ha : Fine a) (hg : Fine g) (hs : a.size + g.size + 1 ≤ 253) : Fine (a ++ ⟨#[46]⟩ ++ g) := by
  refine ⟨?_, ?_, ?_, ?_⟩
  · rw [data_join]; simp
  · rw [size_eq, data_join]
    have h1 := size_eq a
    have h2 := size_eq g
    simp; omega
  · rw [data_join, emptyP_join, ha.em, hg.em]; rfl
  · intro b hb
    rw [data_join] at hb
    rcases List.mem_append.1 hb with h | h
    · exact ha.ok b h
    · rcases List.mem_cons.1 h with rfl | h
      · decide
      · exact hg.ok b h

theorem upB_split (g : ByteArray) (j : Nat) : ∀ n, j ≤ n → ∃ r, upB g n = upB g j ++ r ∧ ∀ z ∈ r, ∃ i, j ≤ i ∧ i < n ∧ z = suffB g i := by
  intro n
  induction n with
  | zero =>
    intro h
    have e : j = 0 := by omega
    subst e
    exact ⟨[], by simp, by simp⟩
  | succ n ih =>
    intro h
    rcases Nat.lt_or_ge j (n + 1) with h1 | h1
    · obtain ⟨r, hr, hz⟩ := ih (by omega)
      rw [upB, hr]
      by_cases h46 : g.data.toList[n]? = some 46
      · rw [if_pos h46]
        refine ⟨r ++ [suffB g n], by simp, fun z hm => ?_⟩
        rcases List.mem_append.1 hm with hm | hm
        · obtain ⟨i, h1, h2, h3⟩ := hz z hm
          exact ⟨i, h1, by omega, h3⟩
        · simp at hm; exact ⟨n, by omega, by omega, hm⟩
      · rw [if_neg h46]
        refine ⟨r, by simp, fun z hm => ?_⟩
        obtain ⟨i, h1, h2, h3⟩ := hz z hm
        exact ⟨i, h1, by omega, h3⟩
    · obtain rfl : j = n + 1 := by omega
      exact ⟨[], by simp, by simp⟩
theorem upB_mem {g : ByteArray} {n : Nat} {z : ByteArray} (h : z ∈ upB g n) : z = g ∨ ∃ i, i < n ∧ z = suffB g i := by
  obtain ⟨r, hr, hz⟩ := upB_split g 0 n (Nat.zero_le _)
  rw [hr] at h
  rcases List.mem_append.1 h with h | h
  · unfold upB at h
    split at h
    · simp at h
    · simp at h; exact .inl h
  · obtain ⟨i, _, h1, h2⟩ := hz z h
    exact .inr ⟨i, h1, h2⟩
theorem suff_data (g : ByteArray) (i : Nat) : (suffB g i).data.toList = 42 :: 46 :: g.data.toList.drop (i + 1) := by
  unfold suffB
  rw [ByteArray.data_append, Array.toList_append, Lib.extract_data, List.take_of_length_le (by rw [List.length_drop, ← size_eq]; omega)]
  rfl
theorem suff_size {g : ByteArray} {i : Nat} (h : i < g.size) : (suffB g i).size = g.size - i + 1 := by
  rw [size_eq, suff_data, List.length_cons, List.length_cons, List.length_drop, ← size_eq]
  omega
theorem Fine.ne_star {g : ByteArray} (h : Fine g) {z : ByteArray} {t : List UInt8} (hz : z.data.toList = 42 :: t) : ¬ g = z := by
  intro e
  have := (h.ok 42 (by rw [e, hz]; simp)).1
  revert this
  decide

/-- the rule of '*.' and a name -/
def starB (h : ByteArray) : ByteArray := ⟨#[42, 46]⟩ ++ h
def starR (h : ByteArray) : PR := ⟨starB h, true, 0, 0⟩
theorem star_data (h : ByteArray) : (starB h).data.toList = 42 :: 46 :: h.data.toList := by
  unfold starB
  rw [ByteArray.data_append, Array.toList_append]
  rfl
theorem star_size (h : ByteArray) : (starB h).size = h.size + 2 := by
  rw [size_eq, star_data, size_eq]; rfl
theorem tabL_snoc (l : List PR) (x : PR) : tabL (l ++ [x]) = SL.put x.name x (tabL l) := by
  unfold tabL tabN
  rw [List.take_length, List.take_length, List.foldl_append]
  rfl
theorem mayGo_snoc {c : PC} {x : PR} : ∀ (l : List PR) (s : List ByteArray), mayGo c s (l ++ [x]) = true → x.name ∉ s ∧ ∀ y ∈ l, y.name ≠ x.name
  | [], s, h => by
    simp only [List.nil_append, mayGo, Bool.and_eq_true, Bool.not_eq_true', decide_eq_false_iff_not] at h
    exact ⟨h.1.2, by simp⟩
  | a :: t, s, h => by
    simp only [List.cons_append, mayGo, Bool.and_eq_true, Bool.not_eq_true', decide_eq_false_iff_not] at h
    obtain ⟨h1, h2⟩ := mayGo_snoc t _ h.2
    simp only [List.mem_append, List.mem_singleton, not_or] at h1
    refine ⟨h1.1, fun y hy => ?_⟩
    rcases List.mem_cons.1 hy with rfl | hy
    · exact fun e => h1.2 e.symm
    · exact h2 y hy
theorem star_none {c : PC} {l : List PR} {x : PR} (h : mayL c (l ++ [x]) = true) : SL.find x.name (tabL l) = none := by
  apply find_of_not
  have h1 : mayGo c [] (l ++ [x]) = true := by simp only [mayL, Bool.and_eq_true] at h; exact h.1
  have h2 := (mayGo_snoc l [] h1).2
  unfold hasL
  rw [List.any_eq_false]
  intro y hy
  rw [ba_toList]
  simp [h2 y hy]
theorem findSome_congr {α β : Type} {f g : α → Option β} : ∀ (l : List α), (∀ z ∈ l, f z = g z) → l.findSome? f = l.findSome? g
  | [], _ => rfl
  | a :: t, h => by
    rw [List.findSome?_cons, List.findSome?_cons, h a (by simp), findSome_congr t (fun z hz => h z (by simp [hz]))]
theorem names_split {g : ByteArray} {p : Nat} (hp : p < g.size) (h46 : g.data.toList[p]? = some 46) : ∃ r, namesB g = upB g p ++ (suffB g p :: r) ∧ ∀ z ∈ r, z = ⟨#[]⟩ ∨ ∃ i, p < i ∧ i < g.size ∧ z = suffB g i := by
  obtain ⟨r, hr, hz⟩ := upB_split g (p + 1) g.size (by omega)
  refine ⟨r ++ [⟨#[]⟩], ?_, fun z hm => ?_⟩
  · unfold namesB
    rw [hr, upB, if_pos h46]
    simp
  · rcases List.mem_append.1 hm with h | h
    · obtain ⟨i, h1, h2, h3⟩ := hz z h
      exact .inr ⟨i, by omega, h2, h3⟩
    · simp at h; exact .inl h
/-- of the name itself: as without the rule -/
theorem star_own {c : PC} {l : List PR} {h : ByteArray} (hf : Fine h) (hm : mayL c (l ++ [starR h]) = true) : findT (tabL (l ++ [starR h])) h = findT (tabL l) h := by
  unfold findT
  rw [tabL_snoc]
  refine findSome_congr _ fun z hz => ?_
  rw [SL.find_put]
  rw [if_neg]
  intro e
  have e' : z = starB h := e
  unfold namesB at hz
  rcases List.mem_append.1 hz with hz | hz
  · rcases upB_mem hz with rfl | ⟨i, h1, h2⟩
    · exact hf.ne_star (star_data _) e'
    · have s1 := suff_size h1
      have s2 := star_size h
      rw [← h2, e'] at s1
      omega
  · simp at hz
    have s2 := star_size h
    rw [← e', hz] at s2
    have s3 : (0 : Nat) = h.size + 2 := s2
    omega
/-- of a longer name: the nearer rule, or this one -/
theorem star_long {c : PC} {l : List PR} {h g : ByteArray} {q : List UInt8} (hf : Fine h) (hg : Fine g) (hq : g.data.toList = q ++ 46 :: h.data.toList) (hm : mayL c (l ++ [starR h]) = true) :
    (∃ x, findT (tabL l) g = some x ∧ findT (tabL (l ++ [starR h])) g = some x ∧ h.size < x.name.size ∧ (x.name = g ∨ h.size + 2 < x.name.size)) ∨
    (findT (tabL (l ++ [starR h])) g = some (starR h) ∧ (findT (tabL l) g = none ∨ ∃ x, findT (tabL l) g = some x ∧ ¬ x.name = g ∧ x.name.size < h.size + 2)) := by
  have hlen : g.size = q.length + 1 + h.size := by
    rw [size_eq, hq, size_eq]; simp; omega
  have h46 : g.data.toList[q.length]? = some 46 := by rw [hq]; simp
  have hsf : suffB g q.length = starB h := by
    apply ba_ext
    rw [suff_data, star_data, hq]
    simp
  obtain ⟨r, hN, hr⟩ := names_split (p := q.length) (by omega) h46
  rw [hsf] at hN
  have hno := star_none hm
  have hno' : SL.find (starB h) (tabL l) = none := hno
  have hT : ∀ z, SL.find z (tabL (l ++ [starR h])) = if z = starB h then some (starR h) else SL.find z (tabL l) := by
    intro z
    rw [tabL_snoc, SL.find_put]
    rfl
  have hpre : ∀ z ∈ upB g q.length, ¬ z = starB h := by
    intro z hz e
    rcases upB_mem hz with rfl | ⟨i, h1, h2⟩
    · exact hg.ne_star (star_data _) e
    · have s1 := suff_size (g := g) (i := i) (by omega)
      have s2 := star_size h
      rw [← h2, e] at s1
      omega
  have hcong : (upB g q.length).findSome? (fun s => SL.find s (tabL (l ++ [starR h]))) = (upB g q.length).findSome? (fun s => SL.find s (tabL l)) :=
    findSome_congr _ fun z hz => by rw [hT, if_neg (hpre z hz)]
  unfold findT
  rw [hN, List.findSome?_append, List.findSome?_append, hcong]
  cases ho : (upB g q.length).findSome? (fun s => SL.find s (tabL l)) with
  | some x =>
    left
    refine ⟨x, by simp, by simp, ?_⟩
    obtain ⟨y, hy, hyx⟩ := List.exists_of_findSome?_eq_some ho
    have hn := tabL_name hyx
    rcases upB_mem hy with rfl | ⟨i, h1, h2⟩
    · exact ⟨by rw [hn]; omega, .inl hn⟩
    · have s1 := suff_size (g := g) (i := i) (by omega)
      rw [← h2, ← hn] at s1
      exact ⟨by omega, .inr (by omega)⟩
  | none =>
    right
    refine ⟨by simp [hT], ?_⟩
    simp only [Option.none_or, List.findSome?_cons, hno']
    cases hv : r.findSome? (fun s => SL.find s (tabL l)) with
    | none => exact .inl rfl
    | some x =>
      right
      refine ⟨x, rfl, ?_⟩
      obtain ⟨y, hy, hyx⟩ := List.exists_of_findSome?_eq_some hv
      have hn := tabL_name hyx
      rcases hr y hy with rfl | ⟨i, h1, h2, h3⟩
      · refine ⟨fun e => hg.ne ?_, ?_⟩
        · rw [← e, hn]
        · rw [hn]; show 0 < _; omega
      · have s1 := suff_size h2
        rw [← h3, ← hn] at s1
        refine ⟨fun e => hg.ne_star (suff_data g i) (by rw [← h3, ← hn]; exact e.symm), by omega⟩
end Go.Proofs.YtbmkdnkiojapbaaDoor
