/-
  The plain law of HttpComes: which answers there are; a told name is folded; the line's end behind what is told. No condition.
-/
import Derived.Test.YtpoheemjdieogaaGreatDoorHttpP
import Derived.Test.YtpoheemjdieogaaGreatDoorFoldQ
namespace Go.Proofs.YtpoheemjdieogaaGreatDoor
open Go.Lib
set_option linter.unusedVariables false
set_option linter.unusedSimpArgs false

theorem dotE_snoc (name : List UInt8) (c : UInt8) : dotE (name ++ [c]) = decide (c = 46) := by
  unfold dotE hasSuffix
  have h1 : (name ++ [c]).isEmpty = false := by simp
  rw [h1, Bool.false_or, Bool.eq_iff_iff, List.isSuffixOf_iff_suffix, decide_eq_true_iff]
  constructor
  · rintro ⟨t, ht⟩
    have := congrArg List.getLast? ht
    simp at this
    exact this.symm
  · rintro rfl
    exact ⟨name, rfl⟩
set_option maxRecDepth 100000 in
theorem host_good0 : ∀ i : Fin 256, hostB (UInt8.ofNat i.val) = true → goodU (UInt8.ofNat i.val) = true := by decide
theorem host_good {c : UInt8} (h : hostB c = true) : goodU c = true := by
  have := host_good0 ⟨c.toNat, c.toNat_lt⟩
  simp only [UInt8.ofNat_toNat] at this
  exact this h
/-- what a beginning of a name keeps to -/
structure NameInv (name : List UInt8) : Prop where
  len : name.length ≤ 253
  good : ∀ b ∈ name, goodU b = true
  dots : ∀ t, emptyP true (name ++ t) = emptyP (dotE name) t
theorem nameH_inv : ∀ (l name a r : List UInt8), NameInv name → nameH name l = .ok (a, r) → NameInv a ∧ dotE a = false
  | [], name, a, r, _, h => by simp [nameH] at h
  | c :: l, name, a, r, hi, h => by
    simp only [nameH] at h
    by_cases h1 : hostB c = true
    · simp only [h1, if_true] at h
      by_cases h2 : c = 46 ∧ (dotE name = true ∨ name.length = 252) ∨ 253 ≤ name.length
      · rw [if_pos h2] at h; cases h
      · rw [if_neg h2] at h
        refine nameH_inv l (name ++ [c]) a r ⟨by simp; omega, fun b hb => ?_, fun t => ?_⟩ h
        · rcases List.mem_append.1 hb with hb | hb
          · exact hi.good b hb
          · rw [List.mem_singleton.1 hb]; exact host_good h1
        · rw [List.append_assoc, List.singleton_append, hi.dots, dotE_snoc]
          by_cases h46 : c = 46
          · have hd : dotE name = false := by
              cases hd : dotE name with
              | false => rfl
              | true => exact absurd (.inl ⟨h46, .inl hd⟩) h2
            rw [hd]
            simp [emptyP, h46]
          · simp [emptyP, h46]
    · by_cases h2 : dotE name = true
      · simp [h1, h2] at h
      · simp [h1, h2] at h
        obtain ⟨rfl, _⟩ := h
        exact ⟨hi, by simpa using h2⟩
theorem nameH_fold {l a r : List UInt8} (h : nameH [] l = .ok (a, r)) : foldA a = some (foldN a) ∧ foldA (foldN a) = some (foldN a) := by
  obtain ⟨hi, hd⟩ := nameH_inv l [] a r ⟨by simp, by simp, fun t => rfl⟩ h
  have hne : a ≠ [] := by rintro rfl; simp [dotE] at hd
  have he : emptyP true a = false := by
    have := hi.dots []
    rw [List.append_nil, hd] at this
    rw [this]; rfl
  have hf := foldA_of hne hi.len he hi.good
  have hn : foldN a = a.map lowerB := by unfold foldN; rw [hf]; rfl
  rw [hn]
  exact ⟨hf, foldA_again hf⟩
theorem bindH_cases {α β : Type} {x : RH α} {f : α → List UInt8 → RH β} {y : β} {r : List UInt8} (h : bindH x f = .ok (y, r)) : ∃ a m, x = .ok (a, m) ∧ f a m = .ok (y, r) := by
  cases x with
  | error k => cases h
  | ok p => obtain ⟨a, m⟩ := p; exact ⟨a, m, rfl, h⟩
theorem authH_fold {l nm r : List UInt8} (h : authH l = .ok (nm, r)) : foldA nm = some nm := by
  obtain ⟨name, m, h1, h2⟩ := bindH_cases h
  obtain ⟨c, m2, h3, h4⟩ := bindH_cases h2
  have hf := (nameH_fold h1).2
  by_cases hc : c = 58
  · rw [if_pos hc] at h4
    obtain ⟨_, m3, _, h5⟩ := bindH_cases h4
    obtain ⟨d, m4, _, h6⟩ := bindH_cases h5
    obtain ⟨_, m5, _, h7⟩ := bindH_cases h6
    simp only [Except.ok.injEq, Prod.mk.injEq] at h7
    rw [← h7.1]; exact hf
  · rw [if_neg hc] at h4
    simp only [Except.ok.injEq, Prod.mk.injEq] at h4
    rw [← h4.1]; exact hf
theorem targetH_fold {l nm r : List UInt8} (h : targetH l = .ok (some nm, r)) : foldA nm = some nm := by
  obtain ⟨c, m, h1, h2⟩ := bindH_cases h
  by_cases hc : c = 47
  · rw [if_pos hc] at h2
    obtain ⟨_, m2, _, h3⟩ := bindH_cases h2
    simp at h3
  · rw [if_neg hc] at h2
    by_cases hc2 : c = 104
    · rw [if_pos hc2] at h2
      obtain ⟨_, m2, _, h3⟩ := bindH_cases h2
      obtain ⟨nm', m3, h4, h5⟩ := bindH_cases h3
      obtain ⟨d, m4, _, h6⟩ := bindH_cases h5
      have hf := authH_fold h4
      by_cases hd : d = 47 ∨ d = 63
      · rw [if_pos hd] at h6
        obtain ⟨_, m5, _, h7⟩ := bindH_cases h6
        simp only [Except.ok.injEq, Prod.mk.injEq, Option.some.injEq] at h7
        rw [← h7.1]; exact hf
      · rw [if_neg hd] at h6
        simp only [Except.ok.injEq, Prod.mk.injEq, Option.some.injEq] at h6
        rw [← h6.1]; exact hf
    · rw [if_neg hc2] at h2
      simp at h2
theorem firstH_fold {l nm r : List UInt8} (h : firstH l = .ok (some nm, r)) : foldA nm = some nm := by
  obtain ⟨_, m1, _, h1⟩ := bindH_cases h
  obtain ⟨_, m2, _, h2⟩ := bindH_cases h1
  obtain ⟨_, m3, _, h3⟩ := bindH_cases h2
  obtain ⟨o, m4, h4, h5⟩ := bindH_cases h3
  obtain ⟨_, m5, _, h6⟩ := bindH_cases h5
  obtain ⟨_, m6, _, h7⟩ := bindH_cases h6
  obtain ⟨_, m7, _, h8⟩ := bindH_cases h7
  simp only [Except.ok.injEq, Prod.mk.injEq] at h8
  rw [h8.1] at h4
  exact targetH_fold h4
theorem fieldsH_shape : ∀ (f : Nat) (l : List UInt8) (x : Int × List UInt8) (r : List UInt8), fieldsH f l = .ok (x, r) → x = (2, []) ∨ ∃ nm, x = (1, nm) ∧ foldA nm = some nm
  | 0, l, x, r, h => by simp [fieldsH] at h
  | f + 1, l, x, r, h => by
    obtain ⟨c, m1, _, h1⟩ := bindH_cases h
    by_cases hc : c = 13
    · rw [if_pos hc] at h1
      obtain ⟨_, m2, _, h2⟩ := bindH_cases h1
      simp only [Except.ok.injEq, Prod.mk.injEq] at h2
      exact .inl h2.1.symm
    · rw [if_neg hc] at h1
      obtain ⟨a, m2, _, h2⟩ := bindH_cases h1
      obtain ⟨ws, m3, _, h3⟩ := bindH_cases h2
      obtain ⟨_, m4, _, h4⟩ := bindH_cases h3
      obtain ⟨_, m5, _, h5⟩ := bindH_cases h4
      cases he : equalFold (a :: ws) hostL with
      | true =>
        rw [he] at h5
        obtain ⟨nm, m6, h6, h7⟩ := bindH_cases h5
        obtain ⟨_, m7, _, h8⟩ := bindH_cases h7
        obtain ⟨_, m8, _, h9⟩ := bindH_cases h8
        simp only [Except.ok.injEq, Prod.mk.injEq] at h9
        exact .inr ⟨nm, h9.1.symm, authH_fold h6⟩
      | false =>
        rw [he] at h5
        obtain ⟨_, m6, _, h7⟩ := bindH_cases h5
        obtain ⟨_, m7, _, h8⟩ := bindH_cases h7
        exact fieldsH_shape f _ x r h8
theorem headH_shape {l : List UInt8} {x : Int × List UInt8} {r : List UInt8} (h : headH l = .ok (x, r)) : x = (2, []) ∨ ∃ nm, x = (1, nm) ∧ foldA nm = some nm := by
  obtain ⟨o, m, h1, h2⟩ := bindH_cases h
  cases o with
  | some nm =>
    simp only [Except.ok.injEq, Prod.mk.injEq] at h2
    exact .inr ⟨nm, h2.1.symm, firstH_fold h1⟩
  | none => exact fieldsH_shape _ _ _ _ h2
/-- which answers there are -/
theorem lookH_shape (b : List UInt8) : lookH b = (0, []) ∨ lookH b = (2, []) ∨ lookH b = (3, []) ∨ ∃ nm, lookH b = (1, nm) ∧ foldA nm = some nm := by
  unfold lookH
  cases h : headH b with
  | error k =>
    rcases (stable_head b []).2.2 k h with rfl | rfl
    · exact .inl rfl
    · exact .inr (.inr (.inl rfl))
  | ok y =>
    obtain ⟨x, r⟩ := y
    rcases headH_shape h with rfl | ⟨nm, rfl, hf⟩
    · exact .inr (.inl rfl)
    · exact .inr (.inr (.inr ⟨nm, rfl, hf⟩))
theorem lookH_stays (b x : List UInt8) (h : (lookH b).1 ≠ 0) : lookH (b ++ x) = lookH b := by
  unfold lookH at h ⊢
  cases hb : headH b with
  | error k =>
    rw [hb] at h
    rw [(stable_head b x).2.1 k hb h]
  | ok y =>
    obtain ⟨a, r⟩ := y
    rw [(stable_head b x).1 a r hb]
/-- the line's end stands ahead of where it is told first -/
theorem lookH_ends {b : List UInt8} (h : (lookH b).1 = 1 ∨ (lookH b).1 = 2) (hm : ∀ j, j < b.length → (lookH (b.take j)).1 = 0) : ∃ p, b = p ++ [13, 10] := by
  have hk : ∃ x r, headH b = .ok (x, r) := by
    cases hb : headH b with
    | ok y => exact ⟨y.1, y.2, rfl⟩
    | error k =>
      unfold lookH at h
      rw [hb] at h
      rcases (stable_head b []).2.2 k hb with rfl | rfl <;> simp at h
  obtain ⟨x, r, hb⟩ := hk
  have hx : lookH b = x := by unfold lookH; rw [hb]
  obtain ⟨pre, h1, h2⟩ := ends_head b x r hb
  have h3 := h2 []
  rw [List.append_nil] at h3
  have ht : b.take (pre ++ [13, 10]).length = pre ++ [13, 10] := by rw [h1, List.take_left']; rfl
  have hl : lookH (b.take (pre ++ [13, 10]).length) = x := by rw [ht]; unfold lookH; rw [h3]
  rcases Nat.lt_or_ge (pre ++ [13, 10]).length b.length with hlt | hge
  · have := hm _ hlt
    rw [hl, ← hx] at this
    rcases h with h | h <;> rw [this] at h <;> cases h
  · have hr : r = [] := by
      have hlen : b.length = (pre ++ [13, 10]).length + r.length := by rw [h1]; simp; omega
      exact List.eq_nil_of_length_eq_zero (by omega)
    exact ⟨pre, by rw [h1, hr, List.append_nil]⟩
end Go.Proofs.YtpoheemjdieogaaGreatDoor
