/-
  The walks of the document's row of places (3): Put. Condition: at most 16384 places, at most 100,000 bytes.
-/
import Derived.Test.YtknlcieceghaiaaReasmC
namespace Go.Proofs.Ytknlcieceghaiaa
open Go.RowKit
set_option linter.unusedVariables false
set_option linter.unusedSimpArgs false

/-! ### Put, plain -/
/-- the row once i bytes were put from off on -/
def RB.putI (r : RB) (off : Int) (data : List UInt8) (i : Nat) : RB :=
  ⟨r.at_, r.len, fun k => r.g k || (decide (off ≤ (k : Int)) && decide ((k : Int) < off + i)), fun k => if r.g k = true then r.y k else if off ≤ (k : Int) ∧ (k : Int) < off + i then data.getD ((k : Int) - off).toNat 0 else r.y k⟩
def RB.put (r : RB) (a : Int) (data : List UInt8) : RB := r.putI (aheadI r.at_ a) data data.length
theorem putI_zero (r : RB) (off : Int) (data : List UInt8) : (r.putI off data 0).is = r.is ∧ (r.putI off data 0).by_ = r.by_ ∧ (r.putI off data 0).g = r.g := by
  have hg : (r.putI off data 0).g = r.g := by
    funext k
    unfold RB.putI
    simp only
    rw [show (decide (off ≤ (k : Int)) && decide ((k : Int) < off + ((0 : Nat) : Int))) = false from by
      rw [Bool.and_eq_false_iff, decide_eq_false_iff_not, decide_eq_false_iff_not]; omega]
    simp
  refine ⟨?_, ?_, hg⟩
  · unfold RB.is; rw [hg]; rfl
  · unfold RB.by_
    refine List.map_congr_left fun k _ => ?_
    unfold RB.putI
    simp only
    by_cases h : r.g k = true
    · rw [if_pos h]
    · rw [if_neg h, if_neg (by omega)]
theorem range_set {α : Type} (f f' : Nat → α) (n j : Nat) (hj : j < n) (h : ∀ k, k < n → k ≠ j → f' k = f k) : (List.range n).map f' = ((List.range n).map f).set j (f' j) := by
  apply List.ext_getElem?
  intro i
  rw [List.getElem?_set, List.getElem?_map, List.getElem?_map]
  by_cases hi : i < n
  · rw [List.getElem?_range hi]
    by_cases hij : j = i
    · subst hij
      simp [hi]
    · rw [if_neg hij]
      simp [h i hi (fun e => hij e.symm)]
  · rw [List.getElem?_eq_none (by simpa using hi)]
    by_cases hij : j = i
    · omega
    · rw [if_neg hij]; simp
/-- a place that has none gets the byte -/
theorem putI_set {r : RB} {off : Int} {data : List UInt8} {i j : Nat} {x : UInt8} (hj : off + (i : Int) = (j : Int)) (hl : j < r.len) (hx : data[i]? = some x) (hg : (r.putI off data i).g j = false) :
    (r.putI off data (i + 1)).is = (r.putI off data i).is.set j true ∧ (r.putI off data (i + 1)).by_ = (r.putI off data i).by_.set j x ∧ cntF r.len (r.putI off data (i + 1)).g = cntF r.len (r.putI off data i).g + 1 := by
  have hrg : r.g j = false := by
    unfold RB.putI at hg
    simp only [Bool.or_eq_false_iff] at hg
    exact hg.1
  have hg1 : (r.putI off data (i + 1)).g j = true := by
    unfold RB.putI
    simp only [Bool.or_eq_true, Bool.and_eq_true, decide_eq_true_eq]
    right; omega
  have hne : ∀ k, k ≠ j → (r.putI off data (i + 1)).g k = (r.putI off data i).g k := fun k hk => by
    unfold RB.putI
    simp only
    congr 2
    rw [decide_eq_decide]
    omega
  have hy : ∀ k, k ≠ j → (r.putI off data (i + 1)).y k = (r.putI off data i).y k := fun k hk => by
    unfold RB.putI
    simp only
    by_cases h : r.g k = true
    · rw [if_pos h, if_pos h]
    · rw [if_neg h, if_neg h]
      by_cases h2 : off ≤ (k : Int) ∧ (k : Int) < off + i
      · rw [if_pos h2, if_pos (by omega)]
      · rw [if_neg h2, if_neg (by omega)]
  have hyj : (r.putI off data (i + 1)).y j = x := by
    unfold RB.putI
    simp only
    rw [if_neg (by rw [hrg]; simp), if_pos (by omega), show ((j : Int) - off).toNat = i by omega, List.getD_eq_getElem?_getD, hx]
    rfl
  refine ⟨?_, ?_, ?_⟩
  · have := range_set (r.putI off data i).g (r.putI off data (i + 1)).g r.len j hl (fun k _ hk => hne k hk)
    rw [hg1] at this
    exact this
  · have := range_set (r.putI off data i).y (r.putI off data (i + 1)).y r.len j hl (fun k _ hk => hy k hk)
    rw [hyj] at this
    exact this
  · have e : r.len = j + (1 + (r.len - (j + 1))) := by omega
    rw [e, cntF_add, cntF_add, cntF_add, cntF_add]
    have a1 : cntF j (r.putI off data (i + 1)).g = cntF j (r.putI off data i).g := cntF_congr fun k hk => hne k (by omega)
    have a2 : cntF (r.len - (j + 1)) (fun k => (r.putI off data (i + 1)).g (j + (1 + k))) = cntF (r.len - (j + 1)) (fun k => (r.putI off data i).g (j + (1 + k))) := cntF_congr fun k hk => hne _ (by omega)
    have a3 : cntF 1 (fun k => (r.putI off data (i + 1)).g (j + k)) = 1 := by simp [cntF, hg1]
    have a4 : cntF 1 (fun k => (r.putI off data i).g (j + k)) = 0 := by simp [cntF, hg]
    rw [a1, a3, a4, a2]
    omega
/-- a place that has one, or that is none: nothing changes -/
theorem putI_same {r : RB} {off : Int} {data : List UInt8} {i : Nat} (h : ∀ j : Nat, off + (i : Int) = (j : Int) → j < r.len → (r.putI off data i).g j = true) :
    (r.putI off data (i + 1)).is = (r.putI off data i).is ∧ (r.putI off data (i + 1)).by_ = (r.putI off data i).by_ ∧ cntF r.len (r.putI off data (i + 1)).g = cntF r.len (r.putI off data i).g := by
  have key : ∀ k, k < r.len → off + (i : Int) = (k : Int) → r.g k = true := fun k hk he => by
    have := h k he hk
    unfold RB.putI at this
    simp only [Bool.or_eq_true, Bool.and_eq_true, decide_eq_true_eq] at this
    rcases this with h1 | h1
    · exact h1
    · omega
  have hg : ∀ k, k < r.len → (r.putI off data (i + 1)).g k = (r.putI off data i).g k := fun k hk => by
    unfold RB.putI
    simp only
    by_cases he : off + (i : Int) = (k : Int)
    · rw [key k hk he]; simp
    · congr 2
      rw [decide_eq_decide]
      omega
  refine ⟨List.map_congr_left fun k hk => hg k (List.mem_range.1 hk), List.map_congr_left fun k hk => ?_, cntF_congr fun k hk => hg k hk⟩
  have hk := List.mem_range.1 hk
  unfold RB.putI
  simp only
  by_cases h1 : r.g k = true
  · rw [if_pos h1, if_pos h1]
  · rw [if_neg h1, if_neg h1]
    have he : ¬ off + (i : Int) = (k : Int) := fun he => h1 (key k hk he)
    by_cases h2 : off ≤ (k : Int) ∧ (k : Int) < off + i
    · rw [if_pos h2, if_pos (by omega)]
    · rw [if_neg h2, if_neg (by omega)]
/-- a row as Put's loop has it: its form is fixed -/
def HasRow {α : Type} (enc : α → Value) (e : TypeId) (w : World) (B : Nat) (A : Option Addr) (n c : Nat) (l : List α) : Prop := l.length = n ∧ n ≤ c ∧ c ≤ maxLen ∧ (0 < n → ∃ g, A = some ⟨g, 0, none⟩ ∧ B ≤ g ∧ RowM enc e w g c l)
theorem HasRow.of_app {α : Type} {enc : α → Value} {e B : Nat} {w : World} {v : Value} {l : List α} (h : (v = .slice none 0 0 ∧ l = []) ∨ ∃ g cap, v = .slice (some ⟨g, 0, none⟩) l.length cap ∧ B ≤ g ∧ RowM enc e w g cap l) : ∃ A c, v = .slice A l.length c ∧ HasRow enc e w B A l.length c l := by
  rcases h with ⟨rfl, rfl⟩ | ⟨g, cap, rfl, hb, hm⟩
  · exact ⟨none, 0, rfl, rfl, Nat.le_refl _, by simp [maxLen], fun h => by simp at h⟩
  · exact ⟨_, cap, rfl, rfl, hm.1, hm.2.1, fun _ => ⟨g, rfl, hb, hm⟩⟩
theorem HasRow.keep {α : Type} {enc : α → Value} {e B : Nat} {w w' : World} {A : Option Addr} {n c : Nat} {l : List α} {S : List Nat} (h : HasRow enc e w B A n c l) (k : Keeps S w w') (hS : ∀ g o, A = some ⟨g, o, none⟩ → g ∉ S) : HasRow enc e w' B A n c l := by
  refine ⟨h.1, h.2.1, h.2.2.1, fun hp => ?_⟩
  obtain ⟨g, e1, hb, hm⟩ := h.2.2.2 hp
  exact ⟨g, e1, hb, hm.keep k (hS g 0 e1)⟩
theorem HasRow.lt {α : Type} {enc : α → Value} {e B : Nat} {w : World} {A : Option Addr} {n c : Nat} {l : List α} (h : HasRow enc e w B A n c l) (hp : 0 < n) {g o : Nat} (hA : A = some ⟨g, o, none⟩) : B ≤ g ∧ g < w.heap.size := by
  obtain ⟨g', e1, hb, hm⟩ := h.2.2.2 hp
  rw [hA] at e1
  injection e1 with e1
  injection e1 with e1
  subst e1
  exact ⟨hb, hm.lt⟩
theorem HasRow.row {α : Type} {enc : α → Value} {e B : Nat} {w : World} {A : Option Addr} {n c : Nat} {l : List α} (h : HasRow enc e w B A n c l) : ∃ J : List Nat, (∀ y ∈ J, B ≤ y ∧ y < w.heap.size) ∧ RowJ enc w J (.slice A n c) l := by
  obtain ⟨h1, h2, h3, h4⟩ := h
  by_cases hp : 0 < n
  · obtain ⟨g, rfl, hb, hm⟩ := h4 hp
    refine ⟨[g], fun y hy => by rw [List.mem_singleton.1 hy]; exact ⟨hb, hm.lt⟩, ?_⟩
    have := hm.row
    rw [h1] at this
    exact this
  · exact ⟨[], by simp, A, c, by rw [h1], by omega, h3, fun h => by omega⟩
theorem HasRow.congr {α : Type} {enc : α → Value} {e B : Nat} {w : World} {A : Option Addr} {n c : Nat} {l l' : List α} (h : HasRow enc e w B A n c l) (he : l' = l) : HasRow enc e w B A n c l' := by rw [he]; exact h
end Go.Proofs.Ytknlcieceghaiaa
