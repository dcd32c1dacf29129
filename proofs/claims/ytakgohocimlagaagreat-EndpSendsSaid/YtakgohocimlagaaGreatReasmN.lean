/-
  Plain laws of a buffer's map: what is found behind a Put and a Take, how many bytes it has, how many runs begin beyond a place. Of no program's code. No condition.
-/
import Derived.Test.YtakgohocimlagaaGreatReasmX
namespace Go.Proofs.YtakgohocimlagaaGreat
open Go.RowKit
set_option linter.unusedVariables false
set_option linter.unusedSimpArgs false

/-! ### found behind a Put -/
theorem ins1_find (m : List (Int × UInt8)) (p j : Int) (c : UInt8) : AL.find j (ins1 m p c) = match AL.find j m with
    | some x => some x
    | none => if j = p then some c else none := by
  unfold ins1
  cases hp : AL.find p m with
  | some y =>
    simp only []
    cases hj : AL.find j m with
    | some x => rfl
    | none =>
      simp only []
      rw [if_neg]
      intro e; subst e; rw [hp] at hj; cases hj
  | none =>
    simp only []
    rw [AL.find_put]
    by_cases h : j = p
    · subst h; simp [hp]
    · rw [if_neg h]
      cases hj : AL.find j m with
      | some x => rfl
      | none => simp [h]
theorem insL_find : ∀ (l : List UInt8) (m : List (Int × UInt8)) (p j : Int), AL.find j (insL m p l) = match AL.find j m with
    | some x => some x
    | none => if p ≤ j then l[(j - p).toNat]? else none := by
  intro l
  induction l with
  | nil =>
    intro m p j
    simp only [insL]
    cases AL.find j m <;> simp
  | cons c r ih =>
    intro m p j
    simp only [insL]
    rw [ih, ins1_find]
    cases hj : AL.find j m with
    | some x => rfl
    | none =>
      simp only []
      by_cases h : j = p
      · subst h; simp
      · rw [if_neg h]
        simp only []
        by_cases h1 : p + 1 ≤ j
        · rw [if_pos h1, if_pos (by omega)]
          have : (j - p).toNat = (j - (p + 1)).toNat + 1 := by omega
          rw [this]; simp
        · rw [if_neg h1, if_neg (by omega)]

/-! ### how many bytes -/
def cntF (N : Nat) (f : Nat → Bool) : Nat := (List.range N).countP f
theorem cntF_succ (N : Nat) (f : Nat → Bool) : cntF (N + 1) f = cntF N f + (if f N then 1 else 0) := by
  unfold cntF
  rw [List.range_succ, List.countP_append]
  cases h : f N <;> simp [h]
theorem cntF_congr {N : Nat} {f g : Nat → Bool} (h : ∀ i, i < N → f i = g i) : cntF N f = cntF N g := by
  induction N with
  | zero => rfl
  | succ N ih => rw [cntF_succ, cntF_succ, ih (fun i hi => h i (by omega)), h N (by omega)]
theorem cntF_false {N : Nat} {f : Nat → Bool} (h : ∀ i, i < N → f i = false) : cntF N f = 0 := by
  induction N with
  | zero => rfl
  | succ N ih => rw [cntF_succ, ih (fun i hi => h i (by omega)), h N (by omega)]; rfl
theorem cntF_or {N : Nat} {f g : Nat → Bool} (h : ∀ i, i < N → f i = true → g i = false) : cntF N (fun i => f i || g i) = cntF N f + cntF N g := by
  induction N with
  | zero => rfl
  | succ N ih =>
    rw [cntF_succ, cntF_succ, cntF_succ, ih (fun i hi => h i (by omega))]
    have := h N (by omega)
    cases hf : f N <;> cases hg : g N <;> simp_all <;> omega
theorem cntF_iv (N p q : Nat) (hq : q ≤ N) : cntF N (fun i => decide (p ≤ i) && decide (i < q)) = q - p := by
  induction N with
  | zero => simp [cntF]; omega
  | succ N ih =>
    rw [cntF_succ]
    rcases Nat.lt_or_ge N q with h | h
    · obtain rfl : q = N + 1 := by omega
      have : cntF N (fun i => decide (p ≤ i) && decide (i < N + 1)) = cntF N (fun i => decide (p ≤ i) && decide (i < N)) := cntF_congr fun i hi => by simp [hi]; intro _; omega
      rw [this]
      have h2 : cntF N (fun i => decide (p ≤ i) && decide (i < N)) = N - p := by
        clear this ih
        have key : ∀ M, M ≤ N → cntF M (fun i => decide (p ≤ i) && decide (i < N)) = M - p := by
          intro M
          induction M with
          | zero => intro _; simp [cntF]
          | succ M ih =>
            intro hM
            rw [cntF_succ, ih (by omega)]
            by_cases hp : p ≤ M
            · simp [hp, (by omega : M < N)]; omega
            · simp [hp]; omega
        exact key N (Nat.le_refl _)
      rw [h2]
      by_cases hp : p ≤ N <;> simp [hp] <;> omega
    · rw [ih h]
      simp; omega
/-- the map's length, by what is found -/
theorem len_cnt {m : List (Int × UInt8)} (hn : (AL.keys m).Nodup) {N : Nat} (hk : ∀ k ∈ AL.keys m, 0 ≤ k ∧ k < N) : m.length = cntF N (fun i => (AL.find (i : Int) m).isSome) := by
  induction m with
  | nil => rw [cntF_false]; rfl; intro i _; rfl
  | cons x r ih =>
    simp only [AL.keys_cons, List.nodup_cons] at hn
    have hx := hk x.1 (by simp [AL.keys_cons])
    have hr := ih hn.2 (fun k h => hk k (by simp only [AL.keys_cons, List.mem_cons]; exact .inr h))
    have e : cntF N (fun i => (AL.find (i : Int) (x :: r)).isSome) = cntF N (fun i => (decide (x.1.toNat ≤ i) && decide (i < x.1.toNat + 1)) || (AL.find (i : Int) r).isSome) := cntF_congr fun i hi => by
      simp only [AL.find]
      by_cases h : x.1 = (i : Int)
      · rw [if_pos h]
        have h1 : x.1.toNat = i := by omega
        simp [h1]
      · rw [if_neg h]
        have h1 : ¬ (x.1.toNat ≤ i ∧ i < x.1.toNat + 1) := by omega
        have : (decide (x.1.toNat ≤ i) && decide (i < x.1.toNat + 1)) = false := by simpa using h1
        rw [this]; rfl
    rw [e, cntF_or, cntF_iv _ _ _ (by omega), ← hr, List.length_cons]
    · omega
    · intro i hi h
      simp only [Bool.and_eq_true, decide_eq_true_eq] at h
      have : x.1 = (i : Int) := by omega
      rw [← this, AL.find_none.2 hn.1]; rfl

/-! ### where runs begin -/
theorem runs_inv : ∀ (l : List Int), l.Pairwise (· < ·) → (∀ k ∈ l, 0 ≤ k) →
    (l = [] ∧ runFold l = (-1, -1, [])) ∨ (∃ p z, l = p ++ [z] ∧ 0 ≤ (runFold l).1 ∧ (runFold l).2.1 = z ∧ (runFold l).2.2.map (·.1) ++ [(runFold l).1] = l.filter (fun x => decide (x - 1 ∉ l))) := by
  have key : ∀ (n : Nat) (l : List Int), l.length = n → l.Pairwise (· < ·) → (∀ k ∈ l, 0 ≤ k) →
    (l = [] ∧ runFold l = (-1, -1, [])) ∨ (∃ p z, l = p ++ [z] ∧ 0 ≤ (runFold l).1 ∧ (runFold l).2.1 = z ∧ (runFold l).2.2.map (·.1) ++ [(runFold l).1] = l.filter (fun x => decide (x - 1 ∉ l))) := by
    intro n
    induction n with
    | zero => intro l hl _ _; left; exact ⟨List.eq_nil_of_length_eq_zero hl, by rw [List.eq_nil_of_length_eq_zero hl]; rfl⟩
    | succ n ih =>
      intro l hl hp h0
      right
      have hne : l ≠ [] := by intro e; rw [e] at hl; simp at hl
      obtain ⟨q, k, rfl⟩ : ∃ q k, l = q ++ [k] := ⟨l.dropLast, l.getLast hne, (List.dropLast_concat_getLast hne).symm⟩
      have hpq := (List.pairwise_append.1 hp).1
      have hlt : ∀ x ∈ q, x < k := fun x hx => (List.pairwise_append.1 hp).2.2 x hx k (by simp)
      have hk0 := h0 k (by simp)
      have hst : runFold (q ++ [k]) = runStep (runFold q) k := by simp [runFold]
      refine ⟨q, k, rfl, ?_⟩
      have hfil : q.filter (fun x => decide (x - 1 ∉ q ++ [k])) = q.filter (fun x => decide (x - 1 ∉ q)) := by
        refine List.filter_congr fun x hx => ?_
        have := hlt x hx
        have h1 : (x - 1 ∉ q ++ [k]) ↔ (x - 1 ∉ q) := by
          simp only [List.mem_append, List.mem_singleton, not_or]
          exact ⟨fun h => h.1, fun h => ⟨h, by omega⟩⟩
        simp only [h1]
      rw [List.filter_append, hfil]
      rcases ih q (by simp at hl; omega) hpq (fun x hx => h0 x (by simp [hx])) with ⟨rfl, hr⟩ | ⟨p, z, rfl, h1, h2, h3⟩
      · rw [hst, hr]
        unfold runStep
        simp only
        rw [if_neg (by omega), if_pos (by omega)]
        refine ⟨hk0, rfl, ?_⟩
        have hm : k - 1 ∉ ([] : List Int) ++ [k] := by simp; omega
        simp only [List.map_nil, List.filter_nil, List.filter_cons, List.nil_append] at hm ⊢
        rw [if_pos (by simpa only [decide_eq_true_eq] using hm)]
      · rw [hst]
        generalize runFold (p ++ [z]) = st at *
        obtain ⟨f, l, d⟩ := st
        simp only at h1 h2 h3
        subst h2
        have hz := hlt l (by simp)
        by_cases hkl : k = l + 1
        · unfold runStep
          simp only
          rw [if_neg (by omega), if_neg (by omega)]
          have hm : k - 1 ∈ (p ++ [l]) ++ [k] := by simp; omega
          refine ⟨h1, rfl, ?_⟩
          simp only [List.filter_cons, List.filter_nil]
          rw [if_neg (by simp only [decide_eq_true_eq]; exact fun h => h hm), List.append_nil]
          exact h3
        · unfold runStep
          simp only
          rw [if_pos ⟨h1, hkl⟩]
          have hm : k - 1 ∉ (p ++ [l]) ++ [k] := by
            intro h
            simp only [List.mem_append, List.mem_singleton] at h
            rcases h with (h | h) | h
            · have h4 : k - 1 < l := (List.pairwise_append.1 hpq).2.2 _ h l (by simp)
              omega
            · omega
            · omega
          refine ⟨hk0, rfl, ?_⟩
          simp only [List.map_append, List.map_cons, List.map_nil, List.filter_cons, List.filter_nil]
          rw [if_pos (by simpa only [decide_eq_true_eq] using hm), ← h3]
  exact fun l => key l.length l rfl
theorem runs_starts {m : List (Int × UInt8)} (hn : (AL.keys m).Nodup) (hk : ∀ k ∈ AL.keys m, 0 ≤ k) : (runsOf m).map (·.1) = (keysS m).filter (fun x => decide (x - 1 ∉ AL.keys m)) := by
  have hmem : ∀ x, x ∈ keysS m ↔ x ∈ AL.keys m := fun x => (keysS_perm m).mem_iff
  have e : (keysS m).filter (fun x => decide (x - 1 ∉ AL.keys m)) = (keysS m).filter (fun x => decide (x - 1 ∉ keysS m)) := by
    refine List.filter_congr fun x hx => ?_
    simp only [hmem]
  rw [e]
  unfold runsOf
  rcases runs_inv (keysS m) (keysS_sorted hn) (fun k h => hk k ((hmem k).1 h)) with ⟨h1, h2⟩ | ⟨p, z, h1, h2, h3, h4⟩
  · rw [h2, h1]; rfl
  · rw [← h4]
    unfold runEnd
    rw [if_pos h2]
    simp
/-- how many runs begin beyond t, by what is found -/
theorem cntR_cnt {m : List (Int × UInt8)} (hn : (AL.keys m).Nodup) {N : Nat} (hk : ∀ k ∈ AL.keys m, 0 ≤ k ∧ k < N) (t : Nat) :
    cntR t (runsOf m) = cntF N (fun i => decide (t < i) && (AL.find (i : Int) m).isSome && !(AL.find ((i : Int) - 1) m).isSome) := by
  have h1 : cntR t (runsOf m) = (((runsOf m).map (·.1)).filter (fun x => decide ((t : Int) < x))).length := by
    unfold cntR
    rw [List.filter_map, List.length_map]
    rfl
  rw [h1, runs_starts hn (fun k h => (hk k h).1), List.filter_filter]
  have hs : ∀ k : Int, k ∈ AL.keys m ↔ (AL.find k m).isSome = true := fun k => by
    cases h : AL.find k m with
    | none => simp [AL.find_none.1 h]
    | some x =>
      simp only [Option.isSome_some, iff_true]
      by_cases hm : k ∈ AL.keys m
      · exact hm
      · rw [AL.find_none.2 hm] at h; cases h
  -- the keys as numbers, of a nodup list within bounds
  have key : ∀ (l : List Int) (f : Int → Bool), l.Nodup → (∀ k ∈ l, 0 ≤ k ∧ k < N) → (l.filter f).length = cntF N (fun i => decide ((i : Int) ∈ l) && f i) := by
    intro l f
    induction l with
    | nil => intro _ _; rw [cntF_false]; rfl; intro i _; simp
    | cons x r ih =>
      intro hn hk
      obtain ⟨hx, hr⟩ := List.nodup_cons.1 hn
      have hx0 := hk x (by simp)
      have ihr := ih hr (fun k h => hk k (List.mem_cons_of_mem _ h))
      have e : cntF N (fun i => decide ((i : Int) ∈ x :: r) && f i) = cntF N (fun i => (decide (x.toNat ≤ i) && decide (i < x.toNat + 1) && f i) || (decide ((i : Int) ∈ r) && f i)) := cntF_congr fun i hi => by
        by_cases h : (i : Int) = x
        · have h1 : x.toNat = i := by omega
          simp [h, h1]
        · have h1 : ¬ (x.toNat ≤ i ∧ i < x.toNat + 1) := by omega
          have : (decide (x.toNat ≤ i) && decide (i < x.toNat + 1)) = false := by simpa using h1
          rw [this]
          simp [h]
      rw [e, cntF_or, ← ihr]
      · rw [List.filter_cons]
        cases hf : f x with
        | true =>
          have : cntF N (fun i => decide (x.toNat ≤ i) && decide (i < x.toNat + 1) && f i) = cntF N (fun i => decide (x.toNat ≤ i) && decide (i < x.toNat + 1)) := cntF_congr fun i hi => by
            by_cases h : x.toNat ≤ i ∧ i < x.toNat + 1
            · have : (i : Int) = x := by omega
              rw [this, hf, Bool.and_true]
            · have : (decide (x.toNat ≤ i) && decide (i < x.toNat + 1)) = false := by simpa using h
              rw [this]; rfl
          rw [this, cntF_iv _ _ _ (by omega)]
          simp; omega
        | false =>
          have : cntF N (fun i => decide (x.toNat ≤ i) && decide (i < x.toNat + 1) && f i) = 0 := cntF_false fun i hi => by
            by_cases h : x.toNat ≤ i ∧ i < x.toNat + 1
            · have : (i : Int) = x := by omega
              rw [this, hf, Bool.and_false]
            · have : (decide (x.toNat ≤ i) && decide (i < x.toNat + 1)) = false := by simpa using h
              rw [this]; rfl
          rw [this]; simp
      · intro i hi h
        simp only [Bool.and_eq_true, decide_eq_true_eq] at h
        have : (i : Int) = x := by omega
        simp [this, hx]
  rw [key _ _ ((keysS_perm m).nodup_iff.2 hn) (fun k h => hk k ((keysS_perm m).mem_iff.1 h))]
  refine cntF_congr fun i hi => ?_
  have h2 : decide ((i : Int) ∈ keysS m) = (AL.find (i : Int) m).isSome := by
    rw [Bool.eq_iff_iff, decide_eq_true_eq, (keysS_perm m).mem_iff, hs]
  have h3 : decide ((i : Int) - 1 ∉ AL.keys m) = !(AL.find ((i : Int) - 1) m).isSome := by
    rw [Bool.eq_iff_iff, decide_eq_true_eq, hs]
    cases (AL.find ((i : Int) - 1) m).isSome <;> simp
  rw [h2, h3]
  have h4 : decide ((t : Int) < (i : Int)) = decide (t < i) := by rw [Bool.eq_iff_iff]; simp
  rw [h4]
  cases decide (t < i) <;> cases (AL.find (i : Int) m).isSome <;> cases (AL.find ((i : Int) - 1) m).isSome <;> rfl
end Go.Proofs.YtakgohocimlagaaGreat
