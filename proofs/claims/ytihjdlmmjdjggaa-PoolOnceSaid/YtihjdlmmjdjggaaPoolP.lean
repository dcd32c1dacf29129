/-
  Plain facts on a pool's state: what Take finds; taking from a new pool in order. No condition.
-/
import Derived.Test.YtihjdlmmjdjggaaPoolV
namespace Go.Proofs.Ytihjdlmmjdjggaa

theorem scan_at (s : PS) : ∀ (n : Nat) (p : Int) (j : Nat), j < n → s.free (p + j) = true → (∀ i : Nat, i < j → s.free (p + i) = false) → s.scan n p = some (p + j)
  | 0, _, _, h, _, _ => by omega
  | n + 1, p, 0, _, hf, _ => by
    have : s.free p = true := by simpa using hf
    simp [PS.scan, this]
  | n + 1, p, j + 1, h, hf, hn => by
    have h0 : s.free p = false := by simpa using hn 0 (by omega)
    have ih := scan_at s n (p + 1) j (by omega) (by rw [show p + 1 + (j : Int) = p + (j + 1 : Nat) by omega]; exact hf)
      (fun i hi => by rw [show p + 1 + (i : Int) = p + (i + 1 : Nat) by omega]; exact hn (i + 1) (by omega))
    rw [PS.scan, if_neg (by simp [h0]), ih]
    congr 1; omega
theorem scan_none (s : PS) : ∀ (n : Nat) (p : Int), (∀ i : Nat, i < n → s.free (p + i) = false) → s.scan n p = none
  | 0, _, _ => rfl
  | n + 1, p, hn => by
    have h0 : s.free p = false := by simpa using hn 0 (by omega)
    rw [PS.scan, if_neg (by simp [h0])]
    exact scan_none s n (p + 1) (fun i hi => by rw [show p + 1 + (i : Int) = p + (i + 1 : Nat) by omega]; exact hn (i + 1) (by omega))
theorem scan_some (s : PS) : ∀ (n : Nat) (p q : Int), s.scan n p = some q → ∃ j : Nat, j < n ∧ q = p + j ∧ s.free q = true ∧ ∀ i : Nat, i < j → s.free (p + i) = false
  | 0, _, _, h => by cases h
  | n + 1, p, q, h => by
    rw [PS.scan] at h
    split at h
    · rename_i hf
      cases h
      exact ⟨0, by omega, by simp, hf, fun i hi => by omega⟩
    · rename_i hf
      obtain ⟨j, hj, hq, hfq, hi⟩ := scan_some s n (p + 1) q h
      refine ⟨j + 1, by omega, by omega, hfq, fun i hi' => ?_⟩
      rcases Nat.eq_zero_or_pos i with rfl | hp
      · simpa using hf
      · have := hi (i - 1) (by omega)
        rw [show p + 1 + ((i - 1 : Nat) : Int) = p + i by omega] at this
        exact this

/-! ### taking in order -/
def inOrder (low : Int) (i : Nat) : List (Int × Unit) := (List.range i).map fun (j : Nat) => (low + (j : Int), ())
theorem keys_inOrder (low p : Int) (i : Nat) : p ∈ AL.keys (inOrder low i) ↔ low ≤ p ∧ p < low + i := by
  simp only [AL.keys, inOrder, List.map_map, List.mem_map, List.mem_range, Function.comp]
  constructor
  · rintro ⟨j, hj, rfl⟩; omega
  · rintro ⟨h1, h2⟩; exact ⟨(p - low).toNat, by omega, by omega⟩
theorem find_inOrder (low p : Int) (i : Nat) : (AL.find p (inOrder low i)).isSome = decide (low ≤ p ∧ p < low + i) := by
  by_cases h : low ≤ p ∧ p < low + i
  · rw [decide_eq_true h]
    cases hf : AL.find p (inOrder low i) with
    | none => exact absurd ((keys_inOrder low p i).2 h) (AL.find_none.1 hf)
    | some _ => rfl
  · rw [decide_eq_false h, AL.find_none.2 (fun hm => h ((keys_inOrder low p i).1 hm))]
    rfl
theorem put_new {α : Type} {k : Int} {v : α} {l : List (Int × α)} (h : AL.find k l = none) : AL.put k v l = l ++ [(k, v)] := by
  induction l with
  | nil => rfl
  | cons x r ih =>
    simp only [AL.find] at h
    by_cases hx : x.1 = k
    · simp [hx] at h
    · simp only [hx, if_false] at h
      simp [AL.put, hx, ih h]
theorem put_inOrder (low : Int) (i : Nat) : AL.put (low + (i : Int)) () (inOrder low i) = inOrder low (i + 1) := by
  rw [put_new]
  · simp [inOrder, List.range_succ]
  · have := find_inOrder low (low + i) i
    rw [decide_eq_false (by omega)] at this
    simpa using this
theorem length_del {α : Type} {k : Int} {l : List (Int × α)} : (AL.find k l).isSome = true → (AL.del k l).length + 1 = l.length := by
  induction l with
  | nil => intro h; simp [AL.find] at h
  | cons x r ih =>
    intro h
    simp only [AL.find] at h
    by_cases hx : x.1 = k
    · simp [AL.del, hx]
    · simp only [hx, if_false] at h
      have := ih h
      simp only [AL.del, hx, if_false, List.length_cons]
      omega

def leastS (low high : Int) (i : Nat) : PS := ⟨low, high, 0, inOrder low i, [], if i = 0 then 0 else 3⟩
theorem leastS_zero (low high : Int) : leastS low high 0 = PS.new low high 0 := rfl
theorem leastS_take (low high : Int) (i : Nat) (hi : (i : Int) ≤ high - low) : (leastS low high i).take 3 = (low + i, 0, leastS low high (i + 1)) := by
  have hat : (leastS low high i).at 3 = ⟨low, high, 0, inOrder low i, [], 3⟩ := by
    simp only [PS.at, leastS]; congr 1; split <;> omega
  unfold PS.take maxTime
  rw [if_neg (by omega), hat]
  have hsc : PS.scan ⟨low, high, 0, inOrder low i, [], 3⟩ (PS.num ⟨low, high, 0, inOrder low i, [], 3⟩) (leastS low high i).low = some (low + i) := by
    refine scan_at _ _ _ i (by simp only [PS.num]; omega) ?_ (fun j hj => ?_)
    · simp [PS.free, PS.tkn, PS.til', find_inOrder, AL.find, leastS]
    · simp only [PS.free, PS.tkn, find_inOrder, leastS]
      rw [decide_eq_true (by omega)]; rfl
  rw [hsc]
  simp only [PS.got, put_inOrder, AL.del, leastS]
  simp
def backS (low high : Int) (k : Nat) (b : Int) : PS := ⟨low, high, 0, AL.del b (inOrder low k), [(b, 3)], 3⟩
theorem leastS_give (low high : Int) (k : Nat) (hk : 0 < k) (b : Int) (h0 : low ≤ b) (h1 : b < low + k) : (leastS low high k).give b 1 = (0, backS low high k b) := by
  unfold PS.give maxTime
  have ht : (leastS low high k).tkn b = true := by simp only [PS.tkn, leastS, find_inOrder]; exact decide_eq_true ⟨h0, h1⟩
  rw [if_neg (by omega), if_neg (by simp [ht])]
  simp only [PS.at, leastS, backS, AL.put, if_neg (Nat.ne_of_gt hk)]
  simp
  omega
theorem nodup_inOrder (low : Int) (k : Nat) : (AL.keys (inOrder low k)).Nodup := by
  simp only [AL.keys, inOrder, List.map_map]
  rw [List.Nodup, List.pairwise_map]
  refine (List.nodup_range (n := k)).imp ?_
  intro a b hab; simp only [Function.comp]; omega
theorem back_tkn (low high : Int) (k : Nat) (b p : Int) : (backS low high k b).tkn p = (decide (low ≤ p ∧ p < low + k) && decide (p ≠ b)) := by
  simp only [PS.tkn, backS, AL.find_del b p (nodup_inOrder low k)]
  by_cases h : p = b
  · simp [h]
  · simp [h, find_inOrder]
theorem backS_give (low high : Int) (k : Nat) (b : Int) : (backS low high k b).give b 1 = (6, backS low high k b) := by
  unfold PS.give maxTime
  rw [if_neg (by omega), if_pos (by simp [back_tkn])]
def againS (low high : Int) (k : Nat) (b : Int) : PS := ⟨low, high, 0, AL.put b () (AL.del b (inOrder low k)), [], 3⟩
theorem backS_take (low high : Int) (k : Nat) (b : Int) (h0 : low ≤ b) (h1 : b < low + k) (hk : (k : Int) ≤ high - low + 1) : (backS low high k b).take 0 = (b, 0, againS low high k b) := by
  have hat : (backS low high k b).at 0 = backS low high k b := by simp only [PS.at, backS]; congr 1
  unfold PS.take maxTime
  rw [if_neg (by omega), hat]
  have hsc : (backS low high k b).scan (backS low high k b).num (backS low high k b).low = some (low + ((b - low).toNat : Nat)) := by
    have hb : low + ((b - low).toNat : Int) = b := by omega
    refine scan_at _ _ _ (b - low).toNat (by simp only [PS.num, backS]; omega) ?_ (fun j hj => ?_)
    · show (backS low high k b).free (low + ((b - low).toNat : Int)) = true
      rw [hb]
      unfold PS.free
      rw [back_tkn]
      simp [PS.til', backS, AL.find]
    · show (backS low high k b).free (low + (j : Int)) = false
      simp only [PS.free, back_tkn]
      rw [decide_eq_true (p := low ≤ low + (j : Int) ∧ low + (j : Int) < low + k) (by omega), decide_eq_true (p := low + (j : Int) ≠ b) (by omega)]; rfl
  rw [hsc]
  have hb : low + ((b - low).toNat : Int) = b := by omega
  rw [hb]
  simp only [PS.got, backS, againS, AL.del, if_true]
theorem againS_count (low high : Int) (k : Nat) (b : Int) (h0 : low ≤ b) (h1 : b < low + k) : (againS low high k b).taken.length = k := by
  simp only [againS]
  have hf : AL.find b (AL.del b (inOrder low k)) = none := by rw [AL.find_del b b (nodup_inOrder low k)]; simp
  rw [put_new hf]
  have := length_del (k := b) (l := inOrder low k) (by rw [find_inOrder]; exact decide_eq_true ⟨h0, h1⟩)
  have hl : (inOrder low k).length = k := by simp [inOrder]
  simp
  omega
end Go.Proofs.Ytihjdlmmjdjggaa
