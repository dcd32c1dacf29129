/-
  The plain law of the document's Find: the nearest rule is the one that is found. No condition.
-/
import Derived.Test.YtbmkdnkiojapbaaDoorPolRg
import Derived.Test.YtbmkdnkiojapbaaDoorPolE
namespace Go.Proofs.YtbmkdnkiojapbaaDoor
open Go.RowKit Go.Lib
set_option linter.unusedVariables false
set_option linter.unusedSimpArgs false

theorem upB_mem46 {g : ByteArray} : ∀ {n : Nat} {z : ByteArray}, z ∈ upB g n → (z = g ∧ g.toList.isEmpty = false) ∨ ∃ i, i < n ∧ g.data.toList[i]? = some 46 ∧ z = suffB g i
  | 0, z, h => by
    unfold upB at h
    split at h
    · simp at h
    · rename_i hE; simp at h; exact .inl ⟨h, by simpa using hE⟩
  | n + 1, z, h => by
    rw [upB] at h
    rcases List.mem_append.1 h with h | h
    · rcases upB_mem46 h with h | ⟨i, h1, h2, h3⟩
      · exact .inl h
      · exact .inr ⟨i, by omega, h2, h3⟩
    · split at h
      · rename_i h46; simp at h; exact .inr ⟨n, by omega, h46, h⟩
      · simp at h
theorem empty_size {g : ByteArray} (h : g.toList.isEmpty = true) : g = ⟨#[]⟩ := by
  rw [Lib.toList_data] at h
  apply ba_ext
  simpa using h
theorem last_dot : ∀ (l : List UInt8) (a : Bool), emptyP a l = false → ∀ i, i + 1 = l.length → ¬ l[i]? = some 46
  | [], a, h, i, hi, e => by simp at hi
  | [c], a, h, i, hi, e => by
    simp at hi
    subst hi
    simp at e
    subst e
    simp [emptyP] at h
  | c :: d :: t, a, h, i, hi, e => by
    obtain ⟨j, rfl⟩ : ∃ j, i = j + 1 := ⟨i - 1, by simp at hi; omega⟩
    rw [emptyP] at h
    have hj : j + 1 = (d :: t).length := by simpa using hi
    have e' : (d :: t)[j]? = some 46 := by simpa using e
    split at h
    · rw [Bool.or_eq_false_iff] at h
      exact last_dot (d :: t) true h.2 j hj e'
    · exact last_dot (d :: t) false h j hj e'
theorem catch_own {g : ByteArray} (hg : Fine g) : catchL g g = 1000 := by
  have h1 : g.toList.isEmpty = false := by
    rw [Lib.toList_data]
    have := hg.ne
    cases h : g.data.toList with
    | nil => exact absurd h this
    | cons a t => rfl
  unfold catchL
  rw [if_neg (by rw [h1]; simp), if_neg (by rw [h1]; simp), if_pos rfl]
theorem catch_empty (g : ByteArray) : catchL ⟨#[]⟩ g = 1 := by
  unfold catchL
  rw [if_pos (by rw [Lib.toList_data]; rfl)]
theorem star_of {z : ByteArray} {t : List UInt8} (h : z.data.toList = 42 :: 46 :: t) : starQ z = true ∧ (hostB z).data.toList = t := by
  have hq : starQ z = true := by unfold starQ; rw [h]; rfl
  refine ⟨hq, ?_⟩
  unfold hostB trimPrefix
  rw [if_pos (show hasPrefix z.data.toList [42, 46] = true from hq), h]
  rfl
theorem catch_suff {g : ByteArray} (hg : Fine g) {i : Nat} (hi : i < g.size) (h46 : g.data.toList[i]? = some 46) : catchL (suffB g i) g = (g.size : Int) - i := by
  obtain ⟨h1, h2⟩ := star_of (suff_data g i)
  have hsz : (hostB (suffB g i)).size = g.size - (i + 1) := by rw [size_eq, h2, List.length_drop, ← size_eq]
  have e1 : (suffB g i).toList.isEmpty = false := by rw [Lib.toList_data, suff_data]; rfl
  have e2 : g.toList.isEmpty = false := by
    rw [Lib.toList_data]
    have := hg.ne
    cases h : g.data.toList with
    | nil => exact absurd h this
    | cons a t => rfl
  have e3 : ¬ suffB g i = g := fun e => hg.ne_star (suff_data g i) e.symm
  have e4 : g.extract (i + 1) g.size = hostB (suffB g i) := by
    apply ba_ext
    rw [h2, Lib.extract_data, List.take_of_length_le (by rw [List.length_drop, ← size_eq]; omega)]
  unfold catchL
  rw [if_neg (by rw [e1]; simp), if_neg (by rw [e2]; simp), if_neg e3, hsz]
  have e5 : g.size - (g.size - (i + 1)) = i + 1 := by omega
  rw [e5, if_pos ⟨h1, by omega, e4, by simpa using h46⟩]
  omega
theorem catch_pos {g z : ByteArray} (hg : Fine g ∨ g = ⟨#[]⟩) : 0 < catchL z g ↔ z ∈ namesB g := by
  constructor
  · intro h
    unfold catchL at h
    unfold namesB
    split at h
    · rename_i hz
      rw [empty_size hz]
      simp
    · split at h
      · omega
      · rename_i hge
        have hge' : g.toList.isEmpty = false := by simpa using hge
        split at h
        · rename_i hzg
          refine List.mem_append_left _ ?_
          obtain ⟨r, hr, _⟩ := upB_split g 0 g.size (Nat.zero_le _)
          rw [hr]
          refine List.mem_append_left _ ?_
          unfold upB
          rw [if_neg (by rw [hge']; simp), hzg]
          simp
        · split at h
          · rename_i hc
            obtain ⟨h1, h2, h3, h4⟩ := hc
            obtain ⟨hd1, hd2⟩ := star_take _ h1
            have hz : z.data.toList = 42 :: 46 :: z.data.toList.drop 2 := by
              conv => lhs; rw [← List.take_append_drop 2 z.data.toList]
              have : z.data.toList.take 2 = [42, 46] := by simpa using hd1
              rw [this]
              rfl
            have hh := (star_of hz).2
            have hzs : z = suffB g (g.size - (hostB z).size - 1) := by
              apply ba_ext
              rw [suff_data, hz, ← hh]
              have e5 : g.size - (hostB z).size - 1 + 1 = g.size - (hostB z).size := by omega
              rw [e5]
              congr 2
              have := congrArg (fun x => x.data.toList) h3
              simp only [Lib.extract_data] at this
              rw [List.take_of_length_le (by rw [List.length_drop, ← size_eq]; omega)] at this
              exact this.symm
            refine List.mem_append_left _ ?_
            obtain ⟨r, hr, _⟩ := upB_split g (g.size - (hostB z).size - 1 + 1) g.size (by omega)
            rw [hr]
            refine List.mem_append_left _ ?_
            rw [upB, if_pos h4, ← hzs]
            simp
          · omega
  · intro h
    unfold namesB at h
    rcases List.mem_append.1 h with h | h
    · rcases hg with hg | rfl
      · rcases upB_mem46 h with ⟨rfl, _⟩ | ⟨i, h1, h2, rfl⟩
        · rw [catch_own hg]; omega
        · rw [catch_suff hg h1 h2]; omega
      · have e : upB ⟨#[]⟩ (ByteArray.size ⟨#[]⟩) = [] := by
          show upB ⟨#[]⟩ 0 = []
          unfold upB
          rw [if_pos (by rw [Lib.toList_data]; rfl)]
        rw [e] at h
        simp at h
    · simp at h
      subst h
      have := catch_empty g
      have e : (ByteArray.empty : ByteArray) = ⟨#[]⟩ := rfl
      first | (rw [this]; omega) | (rw [e, this]; omega)
theorem up_order {g : ByteArray} (hg : Fine g) : ∀ n, n ≤ g.size → (upB g n).Pairwise (fun a b => catchL b g < catchL a g) ∧ ∀ z ∈ upB g n, (g.size : Int) - n + 1 ≤ catchL z g
  | 0, _ => by
    have := hg.le
    unfold upB
    split
    · simp
    · refine ⟨by simp, fun z hz => ?_⟩
      simp at hz
      subst hz
      rw [catch_own hg]
      omega
  | n + 1, hn => by
    obtain ⟨h1, h2⟩ := up_order hg n (by omega)
    rw [upB]
    split
    · rename_i h46
      have hc := catch_suff hg (i := n) (by omega) h46
      refine ⟨List.pairwise_append.2 ⟨h1, by simp, fun a ha b hb => ?_⟩, fun z hz => ?_⟩
      · simp at hb
        subst hb
        have := h2 a ha
        omega
      · rcases List.mem_append.1 hz with hz | hz
        · have := h2 z hz
          omega
        · simp at hz
          subst hz
          omega
    · rw [List.append_nil]
      refine ⟨h1, fun z hz => ?_⟩
      have := h2 z hz
      omega
theorem names_order {g : ByteArray} (hg : Fine g ∨ g = ⟨#[]⟩) : (namesB g).Pairwise (fun a b => catchL b g < catchL a g) := by
  unfold namesB
  rcases hg with hg | rfl
  · obtain ⟨h1, _⟩ := up_order hg g.size (Nat.le_refl _)
    refine List.pairwise_append.2 ⟨h1, by simp, fun a ha b hb => ?_⟩
    have hb' : b = ⟨#[]⟩ := by simpa using hb
    rw [hb', catch_empty]
    rcases upB_mem46 ha with ⟨rfl, _⟩ | ⟨i, g1, g2, rfl⟩
    · rw [catch_own hg]; omega
    · rw [catch_suff hg g1 g2]
      have hl : ¬ i + 1 = g.size := fun e => last_dot _ true hg.em i (by rw [← size_eq]; exact e) g2
      omega
  · have e : upB ⟨#[]⟩ (ByteArray.size ⟨#[]⟩) = [] := by
      show upB ⟨#[]⟩ 0 = []
      unfold upB
      rw [if_pos (by rw [Lib.toList_data]; rfl)]
    rw [e]
    simp
theorem fold_or (s : ByteArray) : Fine (foldB s) ∨ foldB s = ⟨#[]⟩ := by
  cases h : foldIs s with
  | true => exact .inl (fold_fine h)
  | false => exact .inr (foldB_no h)
theorem find_best {l : List PR} (hn : (l.map PR.name).Nodup) {g : ByteArray} (hg : Fine g ∨ g = ⟨#[]⟩) {x : PR} (hx : x ∈ l) (hp : 0 < catchL x.name g) (hm : ∀ y ∈ l, catchL y.name g ≤ catchL x.name g) : findT (tabL l) g = some x := by
  have hmem := (catch_pos hg).1 hp
  have hfx := (find_iff hn).2 ⟨hx, rfl⟩
  cases hf : findT (tabL l) g with
  | none =>
    unfold findT at hf
    have := List.findSome?_eq_none_iff.1 hf x.name hmem
    rw [hfx] at this; cases this
  | some y =>
    unfold findT at hf
    obtain ⟨pre, z, post, h1, h2, h3⟩ := List.findSome?_eq_some_iff.1 hf
    have hz := (find_iff hn).1 h2
    have ho := names_order hg
    rw [h1] at hmem ho
    rcases List.mem_append.1 hmem with h | h
    · have := h3 _ h
      rw [hfx] at this; cases this
    · rcases List.mem_cons.1 h with h | h
      · rw [← h] at h2
        rw [hfx] at h2
        rw [h2]
      · have h4 := (List.pairwise_append.1 ho).2.1
        rw [List.pairwise_cons] at h4
        have h5 := h4.1 _ h
        have h6 := hm y hz.1
        rw [hz.2] at h6
        omega
theorem find_no {l : List PR} (hn : (l.map PR.name).Nodup) {g : ByteArray} (hg : Fine g ∨ g = ⟨#[]⟩) (h : ∀ y ∈ l, ¬ 0 < catchL y.name g) : findT (tabL l) g = none := by
  apply findT_none
  intro z hz
  cases hf : SL.find z (tabL l) with
  | none => rfl
  | some y =>
    have := (find_iff hn).1 hf
    exact absurd ((catch_pos hg).2 (by rw [this.2]; exact hz)) (h y this.1)
end Go.Proofs.YtbmkdnkiojapbaaDoor
