/-
  The plain law of a name's rules: what is found is the rule of the first of the names that has one; another case of letters, the same. No condition.
-/
import Derived.Test.YtbmkdnkiojapbaaDoorPolU
import Derived.Test.YtbmkdnkiojapbaaDoorPolUp
namespace Go.Proofs.YtbmkdnkiojapbaaDoor
open Go.RowKit Go.Lib
set_option linter.unusedVariables false
set_option linter.unusedSimpArgs false

/-- a rule bears the name -/
def hasL (l : List PR) (s : ByteArray) : Bool := l.any fun x => x.name.toList == s.toList
theorem ba_toList {a b : ByteArray} : (a.toList == b.toList) = decide (a = b) := by
  by_cases h : a = b
  · subst h; simp
  · rw [decide_eq_false h, Lib.bytes_beq_false_iff]
    exact h
theorem ba_ext {a b : ByteArray} (h : a.data.toList = b.data.toList) : a = b := ByteArray.ext (Array.toList_inj.mp h)
theorem tabN_name {l : List PR} {y : ByteArray} {x : PR} : ∀ i, SL.find y (tabN l i) = some x → x.name = y := by
  intro i
  induction i with
  | zero => intro h; simp [tabN, SL.find] at h
  | succ i ih =>
    intro h
    by_cases hi : i < l.length
    · rw [tabN_next (List.getElem?_eq_getElem hi), SL.find_put] at h
      split at h
      · rename_i e; injection h with h; rw [← h, e]
      · exact ih h
    · have e : tabN l (i + 1) = tabN l i := by unfold tabN; rw [List.take_of_length_le (by omega), List.take_of_length_le (by omega)]
      rw [e] at h; exact ih h
theorem tabN_has {l : List PR} {y : ByteArray} : ∀ i, (SL.find y (tabN l i)).isSome = (l.take i).any fun x => x.name.toList == y.toList := by
  intro i
  induction i with
  | zero => simp [tabN, SL.find]
  | succ i ih =>
    by_cases hi : i < l.length
    · rw [tabN_next (List.getElem?_eq_getElem hi), SL.find_put, List.take_add_one, List.getElem?_eq_getElem hi, List.any_append]
      by_cases he : y = l[i].name
      · rw [if_pos he]; simp [he]
      · rw [if_neg he, ih]
        have : (l[i].name.toList == y.toList) = false := by rw [ba_toList]; exact decide_eq_false (fun e => he e.symm)
        simp [this]
    · rw [List.take_of_length_le (by omega)]
      have e : tabN l (i + 1) = tabN l i := by unfold tabN; rw [List.take_of_length_le (by omega), List.take_of_length_le (by omega)]
      rw [e, ih, List.take_of_length_le (by omega)]
theorem tabL_name {l : List PR} {y : ByteArray} {x : PR} (h : SL.find y (tabL l) = some x) : x.name = y := tabN_name _ h
theorem tabL_has (l : List PR) (y : ByteArray) : (SL.find y (tabL l)).isSome = hasL l y := by
  unfold tabL hasL
  rw [tabN_has, List.take_length]
theorem find_of_has {l : List PR} {y : ByteArray} (h : hasL l y = true) : ∃ x, SL.find y (tabL l) = some x ∧ x.name = y := by
  rw [← tabL_has] at h
  obtain ⟨x, hx⟩ := Option.isSome_iff_exists.1 h
  exact ⟨x, hx, tabL_name hx⟩
theorem find_of_not {l : List PR} {y : ByteArray} (h : hasL l y = false) : SL.find y (tabL l) = none := by
  rw [← tabL_has] at h
  cases hf : SL.find y (tabL l) with
  | none => rfl
  | some x => rw [hf] at h; cases h

/-- nothing found ahead of the rule without a name -/
theorem findT_last {l : List PR} {f : ByteArray} (h : ∀ z ∈ upB f f.size, hasL l z = false) : (findT (tabL l) f).isSome = hasL l ⟨#[]⟩ ∧ ((findT (tabL l) f).getD zeroPR).name = ⟨#[]⟩ := by
  have e : findT (tabL l) f = SL.find ⟨#[]⟩ (tabL l) := by
    unfold findT namesB
    rw [List.findSome?_append, List.findSome?_eq_none_iff.2 (fun z hz => find_of_not (h z hz))]
    simp
  rw [e]
  refine ⟨tabL_has l _, ?_⟩
  cases hf : SL.find ⟨#[]⟩ (tabL l) with
  | none => rfl
  | some x => exact tabL_name hf
theorem upB_zero {f : ByteArray} (h : f.toList.isEmpty = true) : f.size = 0 := by
  rw [size_eq]
  rw [Lib.toList_data] at h
  simp at h
  rw [h]; rfl
theorem findT_nil (l : List PR) : (findT (tabL l) ⟨#[]⟩).isSome = hasL l ⟨#[]⟩ ∧ ((findT (tabL l) ⟨#[]⟩).getD zeroPR).name = ⟨#[]⟩ := by
  refine findT_last fun z hz => ?_
  have e : upB ⟨#[]⟩ (ByteArray.size ⟨#[]⟩) = [] := by
    show upB ⟨#[]⟩ 0 = []
    unfold upB
    rw [if_pos (by rw [Lib.toList_data]; rfl)]
  rw [e] at hz
  simp at hz
/-- at place i: the rule of the suffix behind it -/
theorem findT_at {l : List PR} {f : ByteArray} {i : Nat} (hi : i < f.size) (h46 : f.data.toList[i]? = some 46) (h : ∀ z ∈ upB f i, hasL l z = false) (hs : hasL l (suffB f i) = true) : ∃ x, findT (tabL l) f = some x ∧ x.name = suffB f i := by
  obtain ⟨x, hx, hn⟩ := find_of_has hs
  refine ⟨x, findT_some (q := upB f i) ?_ (fun z hz => find_of_not (h z hz)) hx, hn⟩
  have := upB_names f (i + 1) (by omega)
  rwa [upB, if_pos h46] at this
theorem findT_own {l : List PR} {f : ByteArray} (hf : f.toList.isEmpty = false) (hs : hasL l f = true) : ∃ x, findT (tabL l) f = some x ∧ x.name = f := by
  obtain ⟨x, hx, hn⟩ := find_of_has hs
  refine ⟨x, findT_some (q := []) ?_ (by simp) hx, hn⟩
  have := upB_names f 0 (by omega)
  rwa [upB, if_neg (by simp [hf])] at this
theorem up_own {l : List PR} {f : ByteArray} (hs : hasL l f = false) : ∀ z ∈ upB f 0, hasL l z = false := by
  intro z hz
  unfold upB at hz
  split at hz
  · simp at hz
  · simp at hz; subst hz; exact hs
theorem up_dot {l : List PR} {f : ByteArray} {i : Nat} (h46 : f.data.toList[i]? = some 46) (h : ∀ z ∈ upB f i, hasL l z = false) (hs : hasL l (suffB f i) = false) : ∀ z ∈ upB f (i + 1), hasL l z = false := by
  intro z hz
  rw [upB, if_pos h46] at hz
  rcases List.mem_append.1 hz with hz | hz
  · exact h z hz
  · simp at hz; subst hz; exact hs
theorem up_no {l : List PR} {f : ByteArray} {i : Nat} (h46 : ¬ f.data.toList[i]? = some 46) (h : ∀ z ∈ upB f i, hasL l z = false) : ∀ z ∈ upB f (i + 1), hasL l z = false := by
  intro z hz
  rw [upB, if_neg h46, List.append_nil] at hz
  exact h z hz
theorem suff_star {f : ByteArray} {i : Nat} (hi : i < f.size) (h46 : f.data.toList[i]? = some 46) : (⟨#[42]⟩ : ByteArray) ++ f.extract i f.size = suffB f i := by
  apply ba_ext
  unfold suffB
  rw [ByteArray.data_append, ByteArray.data_append, Array.toList_append, Array.toList_append, Lib.extract_data, Lib.extract_data]
  have hl : f.data.toList.length = f.size := (size_eq f).symm
  have h1 : f.data.toList.drop i = 46 :: f.data.toList.drop (i + 1) := by
    rw [List.drop_eq_getElem_cons (by omega)]
    have := List.getElem?_eq_getElem (l := f.data.toList) (i := i) (by omega)
    rw [h46] at this
    injection this with this
    rw [← this]
  rw [h1, show f.size - i = (f.size - (i + 1)) + 1 by omega, List.take_succ_cons]
  rfl

set_option maxRecDepth 100000 in
theorem goodU_upper : ∀ i : Fin 256, goodU (UInt8.ofNat i.val) = true → goodU (upperB (UInt8.ofNat i.val)) = true ∧ lowerB (upperB (UInt8.ofNat i.val)) = lowerB (UInt8.ofNat i.val) ∧ (upperB (UInt8.ofNat i.val) = 46 ↔ UInt8.ofNat i.val = 46) := by decide
theorem goodU_up {c : UInt8} (h : goodU c = true) : goodU (upperB c) = true ∧ lowerB (upperB c) = lowerB c ∧ (upperB c = 46 ↔ c = 46) := by
  have := goodU_upper ⟨c.toNat, c.toNat_lt⟩
  simp only [UInt8.ofNat_toNat] at this
  exact this h
theorem emptyP_upper : ∀ (s : List UInt8) (a : Bool), (∀ b ∈ s, goodU b = true) → emptyP a (s.map upperB) = emptyP a s
  | [], a, _ => rfl
  | c :: t, a, h => by
    have hc := (goodU_up (h c (by simp))).2.2
    have ht := fun x => emptyP_upper t x (fun b hb => h b (by simp [hb]))
    rw [List.map_cons, emptyP, emptyP, ht, ht]
    by_cases e : c = 46
    · rw [if_pos e, if_pos (hc.2 e)]
    · rw [if_neg e, if_neg (fun e2 => e (hc.1 e2))]
theorem foldA_upper {s l : List UInt8} (h : foldA s = some l) : foldA (toUpperD s) = some l := by
  obtain ⟨h1, h2, h3, h4, h5⟩ := foldA_some h
  have ha : ∀ b ∈ s, b.toNat < 128 := fun b hb => by
    have := h4 b hb
    simp [goodU] at this
    exact this.1
  rw [toUpperD_ascii s ha]
  have := foldA_of (s := toUpperA s) (by simp [toUpperA, h1]) (by simp [toUpperA]; exact h2) (by unfold toUpperA; rw [emptyP_upper s true h4]; exact h3) (by
    intro b hb
    simp only [toUpperA, List.mem_map] at hb
    obtain ⟨c, hc, rfl⟩ := hb
    exact (goodU_up (h4 c hc)).1)
  rw [this, h5]
  congr 1
  simp only [toUpperA, List.map_map]
  exact List.map_congr_left fun c hc => (goodU_up (h4 c hc)).2.1
/-- the string in capitals -/
def upperS (s : ByteArray) : ByteArray := ⟨(toUpperD s.data.toList).toArray⟩
theorem foldB_upper {s : ByteArray} (h : foldIs s = true) : foldB (upperS s) = foldB s := by
  unfold foldIs at h
  obtain ⟨l, hl⟩ := Option.isSome_iff_exists.1 h
  unfold foldB
  rw [hl]
  rw [foldL_eq] at hl
  have : foldL (upperS s).data.toList = some l := by rw [foldL_eq]; exact foldA_upper hl
  rw [this]
theorem foldB_no {s : ByteArray} (h : foldIs s = false) : foldB s = ⟨#[]⟩ := by
  unfold foldIs at h
  unfold foldB
  cases hl : foldL s.data.toList with
  | none => rfl
  | some l => rw [hl] at h; cases h
theorem foldB_ne {s : ByteArray} (h : foldIs s = true) : (foldB s).toList.isEmpty = false := by
  unfold foldIs at h
  obtain ⟨l, hl⟩ := Option.isSome_iff_exists.1 h
  unfold foldB
  rw [hl]
  rw [foldL_eq] at hl
  obtain ⟨h1, _, _, _, h5⟩ := foldA_some hl
  rw [Lib.toList_data]
  have : ¬ s.data = #[] := fun e => h1 (by rw [e])
  simp [h5, this]
end Go.Proofs.YtbmkdnkiojapbaaDoor
