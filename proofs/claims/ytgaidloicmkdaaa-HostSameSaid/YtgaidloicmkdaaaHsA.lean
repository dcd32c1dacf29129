/-
  The plain law of HostSame: what is got of a stream's pieces, and that the same piece once more lets nothing more be got. No condition but the sizes.
-/
import Derived.Test.YtgaidloicmkdaaaHostM
namespace Go.Proofs.Ytgaidloicmkdaaa
open Go.RowKit
set_option linter.unusedVariables false
set_option linter.unusedSimpArgs false

theorem addI_add (f x y : Int) : addI (addI f x) y = addI f (x + y) := by unfold addI; omega
theorem aheadI_add (f x y : Int) (h : -2147483648 ≤ y - x ∧ y - x ≤ 2147483647) : aheadI (addI f x) (addI f y) = y - x := by
  obtain ⟨h1, h2⟩ := h
  unfold aheadI addI
  split <;> omega
/-- how far it is got, if a piece is accepted: L so far, R read, room for 100 -/
def farL (L R frm tt : Nat) : Nat := if frm ≤ L then max L (min tt (R + 100)) else L
def accL (F1 : Int) (L R frm tt : Nat) : Bool := acceptI (addI F1 frm) ((tt - frm : Nat) : Int) (addI F1 L) (100 - ((L : Int) - R))
def gotL (F1 : Int) (L R frm tt : Nat) : Nat := if accL F1 L R frm tt then farL L R frm tt else L
theorem farL_le {L R frm tt n : Nat} (hL : L ≤ n) (ht : tt ≤ n) (hw : L ≤ R + 100) : L ≤ farL L R frm tt ∧ farL L R frm tt ≤ n ∧ farL L R frm tt ≤ R + 100 := by unfold farL; split <;> omega
theorem farL_twice (L R frm tt : Nat) : farL (farL L R frm tt) R frm tt = farL L R frm tt := by
  unfold farL
  by_cases h : frm ≤ L
  · rw [if_pos h, if_pos (by omega)]; omega
  · rw [if_neg h, if_neg h]
theorem gotL_le {F1 : Int} {L R frm tt n : Nat} (hL : L ≤ n) (ht : tt ≤ n) (hw : L ≤ R + 100) : L ≤ gotL F1 L R frm tt ∧ gotL F1 L R frm tt ≤ n ∧ gotL F1 L R frm tt ≤ R + 100 := by
  unfold gotL
  split
  · exact farL_le hL ht hw
  · exact ⟨Nat.le_refl _, hL, hw⟩
theorem gotL_twice (F1 : Int) (L R frm tt : Nat) : gotL F1 (gotL F1 L R frm tt) R frm tt = gotL F1 L R frm tt := by
  by_cases h : accL F1 L R frm tt = true
  · have e : gotL F1 L R frm tt = farL L R frm tt := by unfold gotL; rw [if_pos h]
    rw [e]
    unfold gotL
    split
    · exact farL_twice L R frm tt
    · rfl
  · have e : gotL F1 L R frm tt = L := by unfold gotL; rw [if_neg h]
    rw [e, e]
theorem cut_far {F1 : Int} {S : List UInt8} {L R frm tt : Nat} (hS : S.length ≤ 200) (h1 : frm ≤ tt) (h2 : tt ≤ S.length) (hL : L ≤ S.length) (hR : R ≤ L) (hw : L ≤ R + 100) :
    if (cutI (addI F1 frm) ((S.drop frm).take (tt - frm)) (addI F1 L) (100 - ((L : Int) - R))).1 = addI F1 L then (cutI (addI F1 frm) ((S.drop frm).take (tt - frm)) (addI F1 L) (100 - ((L : Int) - R))).2 = (S.drop L).take (farL L R frm tt - L) else farL L R frm tt = L := by
  have hlen : ((S.drop frm).take (tt - frm)).length = tt - frm := by simp; omega
  have ha : aheadI (addI F1 L) (addI F1 frm) = frm - L := aheadI_add _ _ _ (by omega)
  have eA : cutA (addI F1 frm) (addI F1 L) = max ((L : Int) - frm) 0 := by unfold cutA; rw [ha]; omega
  have eB : cutB (addI F1 frm) ((S.drop frm).take (tt - frm)).length (addI F1 L) (100 - ((L : Int) - R)) = min (100 + R - frm : Int) (tt - frm) := by unfold cutB; rw [ha, hlen]; omega
  unfold cutI
  rw [eA, eB]
  by_cases hge : max ((L : Int) - frm) 0 ≥ min (100 + R - frm : Int) (tt - frm)
  · rw [if_pos hge]
    simp only [if_true]
    have : farL L R frm tt - L = 0 := by unfold farL; split <;> omega
    rw [this, List.take_zero]
  · rw [if_neg hge]
    simp only
    rw [addI_add]
    by_cases hf : frm ≤ L
    · have e1 : (frm : Int) + max ((L : Int) - frm) 0 = L := by omega
      rw [e1, if_pos rfl]
      have e2 : farL L R frm tt - L = min tt (R + 100) - L := by unfold farL; rw [if_pos hf]; omega
      have e3 : (max ((L : Int) - frm) 0).toNat = L - frm := by omega
      have e4 : (min (100 + R - frm : Int) (tt - frm)).toNat - (L - frm) = min tt (R + 100) - L := by omega
      rw [e2, e3, e4, List.drop_take, List.drop_drop, List.take_take]
      have e5 : frm + (L - frm) = L := by omega
      have e6 : min (min tt (R + 100) - L) (tt - frm - (L - frm)) = min tt (R + 100) - L := by omega
      rw [e5, e6]
    · have hne : addI F1 ((frm : Int) + max ((L : Int) - frm) 0) ≠ addI F1 L := by
        unfold addI
        omega
      rw [if_neg hne]
      unfold farL
      rw [if_neg hf]
theorem take_far {S : List UInt8} {L n : Nat} (h : L ≤ n) : S.take L ++ (S.drop L).take (n - L) = S.take n := by
  have e : n = L + (n - L) := by omega
  rw [e, List.take_add]
  congr 2
  omega
end Go.Proofs.Ytgaidloicmkdaaa
