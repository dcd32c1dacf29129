/-
  The plain law of a folded name: what Split at '.', ToLower, and a look at each byte tell of a string. No condition.
-/
import Derived.Shelf.Strings.CaseAny
import Derived.Lib.Split
import Derived.Lib.CountLaws
namespace Go.Proofs.YtocnkiojlifgpaaGreatDoor
open Go.Lib
set_option linter.unusedVariables false
set_option linter.unusedSimpArgs false

/-- a piece between dots is empty; a: at a piece's start -/
def emptyP : Bool → List UInt8 → Bool
  | a, [] => a
  | a, c :: t => if c = 46 then a || emptyP true t else emptyP false t
theorem emptyP_none : ∀ (l : List UInt8) (a : Bool), 46 ∉ l → emptyP a l = (a && l.isEmpty)
  | [], a, _ => by simp [emptyP]
  | c :: t, a, h => by
    simp only [List.mem_cons, not_or] at h
    have h1 : ¬ c = 46 := fun e => h.1 e.symm
    rw [emptyP, if_neg h1, emptyP_none t false h.2]
    simp
theorem emptyP_dot : ∀ (p : List UInt8) (a : Bool) (q : List UInt8), 46 ∉ p → emptyP a (p ++ 46 :: q) = ((a && p.isEmpty) || emptyP true q)
  | [], a, q, _ => by simp [emptyP]
  | c :: t, a, q, h => by
    simp only [List.mem_cons, not_or] at h
    have h1 : ¬ c = 46 := fun e => h.1 e.symm
    rw [List.cons_append, emptyP, if_neg h1, emptyP_dot t false q h.2]
    simp
theorem index_dot : ∀ s : List UInt8, (index s [46] = -1 ∧ 46 ∉ s) ∨ ∃ (p q : List UInt8), index s [46] = (p.length : Int) ∧ s = p ++ 46 :: q ∧ 46 ∉ p
  | [] => by left; exact ⟨by decide, by simp⟩
  | c :: t => by
    by_cases hc : c = 46
    · subst hc
      right
      exact ⟨[], t, by simp [index], rfl, by simp⟩
    · have hp : ([46] : List UInt8).isPrefixOf (c :: t) = false := by
        simp [List.isPrefixOf]; exact fun e => hc e.symm
      rcases index_dot t with ⟨h1, h2⟩ | ⟨p, q, h1, h2, h3⟩
      · left
        refine ⟨?_, by simp [h2]; exact fun e => hc e.symm⟩
        unfold index
        rw [hp, h1]; rfl
      · right
        refine ⟨c :: p, q, ?_, by rw [h2]; rfl, by simp [h3]; exact fun e => hc e.symm⟩
        unfold index
        rw [hp, h1]
        have : ¬ ((p.length : Int) == -1) = true := fun e => by have := beq_iff_eq.1 e; omega
        rw [if_neg (by simp), if_neg this]
        simp
theorem splitK_empty : ∀ (fuel : Nat) (s : List UInt8), s.length < fuel → (splitK [46] 0 (countFrom [46] fuel s) s).any (·.isEmpty) = emptyP true s
  | 0, _, h => by omega
  | fuel + 1, s, h => by
    rcases index_dot s with ⟨h1, h2⟩ | ⟨p, q, h1, h2, h3⟩
    · have e : countFrom [46] (fuel + 1) s = 0 := by unfold countFrom; rw [h1]; rfl
      rw [e, splitK, emptyP_none _ _ h2]
      simp
    · have hne : ¬ ((p.length : Int) == -1) = true := fun e => by have := beq_iff_eq.1 e; omega
      have hd : s.drop (p.length + 1) = q := by
        rw [h2, show p ++ 46 :: q = (p ++ [46]) ++ q by simp, List.drop_append_of_le_length (by simp)]
        simp
      have ht : s.take p.length = p := by rw [h2]; simp
      have e : countFrom [46] (fuel + 1) s = countFrom [46] fuel q + 1 := by
        rw [countFrom, h1, if_neg hne]
        simp only [Int.toNat_natCast, List.length_cons, List.length_nil, Nat.zero_add]
        rw [hd, Nat.add_comm]
      have hql : q.length < fuel := by rw [h2] at h; simp at h; omega
      rw [e, splitK, h1, if_neg hne]
      simp only [Int.toNat_natCast, List.length_cons, List.length_nil, Nat.zero_add, Nat.add_zero]
      rw [hd, ht, List.any_cons, splitK_empty fuel q hql, h2, emptyP_dot p true q h3]
      simp
theorem split_empty (s : ByteArray) : (splitB ⟨#[46]⟩ 0 (countB s ⟨#[46]⟩) s).any (·.size == 0) = emptyP true s.data.toList := by
  have h := splitB_data ⟨#[46]⟩ 0 (countB s ⟨#[46]⟩) s
  have e := splitK_empty (s.data.toList.length + 1) s.data.toList (by omega)
  have e2 : countB s ⟨#[46]⟩ = countFrom [46] (s.data.toList.length + 1) s.data.toList := rfl
  rw [← e, ← e2]
  have e3 : (⟨#[46]⟩ : ByteArray).data.toList = [46] := rfl
  rw [e3] at h
  rw [← h, List.any_map]
  congr 1
  funext x
  obtain ⟨⟨l⟩⟩ := x
  cases l with
  | nil => rfl
  | cons a l => simp [Function.comp, ByteArray.size]

/-- a byte that may not be in a folded name -/
def badB (c : UInt8) : Bool := (decide (c < 97) || decide (122 < c)) && (decide (c < 48) || decide (57 < c)) && c != 45 && c != 95 && c != 46
set_option maxRecDepth 100000 in
theorem badB_high : ∀ i : Fin 256, 128 ≤ i.val → badB (UInt8.ofNat i.val) = true := by decide
theorem badB_ascii {c : UInt8} (h : badB c = false) : c.toNat < 128 := by
  apply Classical.byContradiction
  intro hn
  have := badB_high ⟨c.toNat, c.toNat_lt⟩ (by simpa using hn)
  simp [h] at this
set_option maxRecDepth 100000 in
theorem lower_fffd : toLowerU 65533 = 65533 := by decide
theorem encodeRune_ascii {r : Int} (h0 : 0 ≤ r) (h : ∀ b ∈ encodeRune r, b.toNat < 128) : r ≤ 127 ∧ (encodeRune r).length = 1 := by
  by_cases h1 : r ≤ 127
  · exact ⟨h1, by simp [encodeRune, encodeRuneZ_one h0 h1]⟩
  · exfalso
    have key : ∃ x ∈ encodeRuneZ r, 128 ≤ x ∧ x < 256 := by
      unfold encodeRuneZ
      split
      · omega
      · split
        · exact ⟨_, List.mem_cons_self, by omega, by omega⟩
        · split
          · exact ⟨_, List.mem_cons_self, by omega, by omega⟩
          · split
            · exact ⟨_, List.mem_cons_self, by omega, by omega⟩
            · exact ⟨_, List.mem_cons_self, by omega, by omega⟩
    obtain ⟨x, hx, h2, h3⟩ := key
    have := h (x.toNat.toUInt8) (List.mem_map_of_mem hx)
    have e : (x.toNat.toUInt8).toNat = x.toNat := by simp; omega
    omega
theorem decodeL_high {c : UInt8} {t : List UInt8} (h : 128 ≤ c.toNat) (h1 : (decodeL (c :: t)).2 = 1) : (decodeL (c :: t)).1 = 65533 := by
  rw [decodeL_N] at h1 ⊢
  rcases decodeN_shape (c :: t).length ((c :: t).getD 0 0).toNat ((c :: t).getD 1 0).toNat ((c :: t).getD 2 0).toNat ((c :: t).getD 3 0).toNat with ⟨e1, e⟩ | ⟨c1, c2, c3, cv, e⟩ | ⟨c1, c2, c3, c4, cv, cs, e⟩ | ⟨c1, c2, c3, c4, c5, cv, cw, e⟩ | e
  · simp at e1; omega
  · rw [e] at h1; simp at h1
  · rw [e] at h1; simp at h1
  · rw [e] at h1; simp at h1
  · rw [e]
theorem lower_shrinks : ∀ (n : Nat) (l : List UInt8), l.length ≤ n → (∀ b ∈ toLowerD l, b.toNat < 128) → (toLowerD l).length ≤ l.length ∧ ((toLowerD l).length = l.length → ∀ b ∈ l, b.toNat < 128)
  | n, [], _, _ => by simp [toLowerD, mapD, mapGoD]
  | 0, c :: t, h, _ => by simp at h
  | n + 1, c :: t, h, ha => by
    have hw := decodeL_width (c :: t)
    have hr := decodeL_rune (c :: t)
    have hle := decodeL_le (c :: t) (by simp)
    have hy := (toLowerU_range (decodeL (c :: t)).1 hr).1
    have hs : toLowerD (c :: t) = encodeRune (toLowerU (decodeL (c :: t)).1) ++ toLowerD ((c :: t).drop (decodeL (c :: t)).2) := by
      unfold toLowerD
      rw [mapD_step toLowerU (c :: t) (by simp), if_pos hy]
    rw [hs] at ha ⊢
    have ha1 : ∀ b ∈ encodeRune (toLowerU (decodeL (c :: t)).1), b.toNat < 128 := fun b hb => ha b (List.mem_append_left _ hb)
    have ha2 : ∀ b ∈ toLowerD ((c :: t).drop (decodeL (c :: t)).2), b.toNat < 128 := fun b hb => ha b (List.mem_append_right _ hb)
    obtain ⟨hy2, hl1⟩ := encodeRune_ascii hy ha1
    have hdl : ((c :: t).drop (decodeL (c :: t)).2).length = t.length + 1 - (decodeL (c :: t)).2 := by simp
    have hdn : ((c :: t).drop (decodeL (c :: t)).2).length ≤ n := by rw [hdl]; simp at h; omega
    obtain ⟨i1, i2⟩ := lower_shrinks n _ hdn ha2
    rw [List.length_append, hl1]
    simp only [List.length_cons] at h hle ⊢
    rw [hdl] at i1 i2
    refine ⟨by omega, fun he => ?_⟩
    have hw1 : (decodeL (c :: t)).2 = 1 := by omega
    rw [hw1] at i1 i2 he hs ha2
    simp only [List.drop_succ_cons, List.drop_zero] at i2 he
    have i3 := i2 (by omega)
    intro b hb
    rcases List.mem_cons.1 hb with rfl | hb
    · apply Classical.byContradiction
      intro hn
      have := decodeL_high (t := t) (by omega) hw1
      rw [this] at hy2
      have h3 : toLowerU ((65533 : Nat) : Int) = 65533 := lower_fffd
      rw [h3] at hy2
      omega
    · exact i3 b hb

/-- what Fold tells of a name: its bytes folded, or nothing -/
def foldL (s : List UInt8) : Option (List UInt8) :=
  if s = [] ∨ 253 < s.length ∨ emptyP true s = true then none
  else if (toLowerD s).any badB = true ∨ (toLowerD s).length ≠ s.length then none else some (toLowerD s)
/-- the same without the table -/
def foldA (s : List UInt8) : Option (List UInt8) :=
  if s = [] ∨ 253 < s.length ∨ emptyP true s = true then none
  else if (∀ b ∈ s, b.toNat < 128) ∧ (toLowerA s).any badB = false then some (toLowerA s) else none
theorem foldL_eq (s : List UInt8) : foldL s = foldA s := by
  unfold foldL foldA
  by_cases h0 : s = [] ∨ 253 < s.length ∨ emptyP true s = true
  · rw [if_pos h0, if_pos h0]
  · rw [if_neg h0, if_neg h0]
    by_cases ha : ∀ b ∈ s, b.toNat < 128
    · rw [toLowerD_ascii s ha]
      have hl : (toLowerA s).length = s.length := by simp [toLowerA]
      by_cases hb : (toLowerA s).any badB = true
      · rw [if_pos (.inl hb), if_neg (by rintro ⟨_, h⟩; rw [hb] at h; cases h)]
      · have hb' : (toLowerA s).any badB = false := by simpa using hb
        rw [if_neg (by rintro (h | h); exact hb h; exact h hl), if_pos ⟨ha, hb'⟩]
    · have hr : ¬ ((∀ b ∈ s, b.toNat < 128) ∧ (toLowerA s).any badB = false) := fun h => ha h.1
      rw [if_neg hr]
      by_cases hb : (toLowerD s).any badB = true
      · rw [if_pos (.inl hb)]
      · have hasc : ∀ b ∈ toLowerD s, b.toNat < 128 := fun b hm => badB_ascii (by
          cases hc : badB b
          · rfl
          · exact absurd (List.any_eq_true.2 ⟨b, hm, hc⟩) hb)
        by_cases hl : (toLowerD s).length = s.length
        · exact absurd ((lower_shrinks _ s (Nat.le_refl _) hasc).2 hl) ha
        · rw [if_pos (.inr hl)]
/-- each byte is one that may be in a name, whatever its case -/
def goodU (c : UInt8) : Bool := decide (c.toNat < 128) && !badB (lowerB c)
theorem foldA_some {s l : List UInt8} (h : foldA s = some l) : s ≠ [] ∧ s.length ≤ 253 ∧ emptyP true s = false ∧ (∀ b ∈ s, goodU b = true) ∧ l = s.map lowerB := by
  unfold foldA at h
  split at h
  · cases h
  · rename_i h0
    split at h
    · rename_i h1
      injection h with h
      simp only [not_or] at h0
      refine ⟨h0.1, by omega, by simpa using h0.2.2, fun b hb => ?_, h.symm⟩
      have h2 : badB (lowerB b) = false := by
        cases hc : badB (lowerB b)
        · rfl
        · exact absurd (List.any_eq_true.2 ⟨lowerB b, List.mem_map_of_mem hb, hc⟩) (by rw [show List.map lowerB s = toLowerA s from rfl, h1.2]; simp)
      simp [goodU, h1.1 b hb, h2]
    · cases h
theorem foldA_of {s : List UInt8} (h1 : s ≠ []) (h2 : s.length ≤ 253) (h3 : emptyP true s = false) (h4 : ∀ b ∈ s, goodU b = true) : foldA s = some (s.map lowerB) := by
  unfold foldA
  rw [if_neg (by rintro (h | h | h); exact h1 h; omega; rw [h3] at h; cases h), if_pos]
  · rfl
  · refine ⟨fun b hb => ?_, ?_⟩
    · have := h4 b hb
      simp [goodU] at this
      exact this.1
    · simp only [toLowerA, List.any_map, List.any_eq_false]
      intro b hb
      have := h4 b hb
      simp [goodU] at this
      simp [this.2]
end Go.Proofs.YtocnkiojlifgpaaGreatDoor
