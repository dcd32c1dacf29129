/-
  The walks of package reasm (6): Put. Condition: the buffer's numbers are in the ranges of their kinds; at most 2^20 bytes.
-/
import Derived.Test.YtakgohocimlagaaGreatReasmP
namespace Go.Proofs.YtakgohocimlagaaGreat
open Go.RowKit
set_option linter.unusedVariables false
set_option linter.unusedSimpArgs false

/-! ### plain -/
/-- a byte laid where there is none -/
def ins1 (m : List (Int × UInt8)) (p : Int) (c : UInt8) : List (Int × UInt8) := match AL.find p m with
  | some _ => m
  | none => AL.put p c m
def insL : List (Int × UInt8) → Int → List UInt8 → List (Int × UInt8)
  | m, _, [] => m
  | m, p, c :: r => insL (ins1 m p c) (p + 1) r
theorem insL_snoc : ∀ (l : List UInt8) (m : List (Int × UInt8)) (p : Int) (c : UInt8), insL m p (l ++ [c]) = ins1 (insL m p l) (p + l.length) c
  | [], m, p, c => by simp [insL]
  | x :: r, m, p, c => by
    simp only [List.cons_append, insL, List.length_cons]
    rw [insL_snoc r]
    congr 1
    push_cast; omega
theorem ins1_keys {m : List (Int × UInt8)} {p : Int} {c : UInt8} {k : Int} (h : k ∈ AL.keys (ins1 m p c)) : k ∈ AL.keys m ∨ k = p := by
  unfold ins1 at h
  split at h
  · exact .inl h
  · rw [AL.keys_put] at h
    split at h
    · exact .inl h
    · simpa using h
theorem ins1_nd {m : List (Int × UInt8)} (hn : (AL.keys m).Nodup) (p : Int) (c : UInt8) : (AL.keys (ins1 m p c)).Nodup := by
  unfold ins1
  split
  · exact hn
  · exact AL.nodup_put _ _ hn
theorem insL_keys {k : Int} : ∀ (l : List UInt8) (m : List (Int × UInt8)) (p : Int), k ∈ AL.keys (insL m p l) → k ∈ AL.keys m ∨ (p ≤ k ∧ k < p + l.length) := by
  intro l
  induction l with
  | nil => intro m p h; exact .inl h
  | cons c r ih =>
    intro m p h
    simp only [List.length_cons]
    rcases ih _ _ h with h1 | h1
    · rcases ins1_keys h1 with h2 | h2
      · exact .inl h2
      · right; push_cast; omega
    · right; push_cast; omega
theorem insL_nd : ∀ (l : List UInt8) {m : List (Int × UInt8)} (p : Int), (AL.keys m).Nodup → (AL.keys (insL m p l)).Nodup := by
  intro l
  induction l with
  | nil => intro m p h; exact h
  | cons c r ih => intro m p h; exact ih _ (ins1_nd h p c)
/-- how many runs begin beyond t -/
def cntR (t : Int) (d : List (Int × Int)) : Nat := (d.filter fun r => decide (t < r.1)).length
theorem cntR_snoc (t : Int) (d : List (Int × Int)) (f e : Int) : cntR t (d ++ [(f, e)]) = if t < f then cntR t d + 1 else cntR t d := by
  unfold cntR
  rw [List.filter_append, List.length_append]
  by_cases h : t < f <;> simp [h]
theorem cntR_le (t : Int) (d : List (Int × Int)) : cntR t d ≤ d.length := List.length_filter_le _ _

def BS.cut (s : BS) (a : Int) (data : List UInt8) : Int × List UInt8 := cutI a data s.next (s.room - s.taken)
def BS.place (s : BS) (a : Int) (data : List UInt8) : Int := s.taken + aheadI s.next (s.cut a data).1
def BS.anew (s : BS) (a : Int) (data : List UInt8) : List (Int × UInt8) := insL s.m (s.place a data) (s.cut a data).2
def BS.holes (s : BS) (a : Int) (data : List UInt8) : Nat := cntR s.taken (runsOf (s.anew a data))
/-- where what was cut is laid -/
theorem BS.cut_in {s : BS} (ok : s.ok) {a : Int} (ha : U32 a) (data : List UInt8) (hd : data.length ≤ 1048576) :
    U32 (s.cut a data).1 ∧ s.taken ≤ s.place a data ∧ s.place a data + (s.cut a data).2.length ≤ s.room := by
  have hn := s.next_bd
  have t0 := ok.t0
  have tr := ok.tr
  have r := ok.r
  obtain ⟨a0, a1⟩ := ha
  obtain ⟨n0, n1⟩ := hn
  unfold BS.place
  unfold BS.cut cutI
  have ho : aheadI s.next a = aheadI s.next a := rfl
  have hz : aheadI s.next s.next = 0 := by unfold aheadI; simp
  split
  · simp only [hz, List.length_nil]
    exact ⟨⟨n0, n1⟩, by omega, by push_cast; omega⟩
  · rename_i hlt
    have e1 : (cutA a s.next) = max (-(aheadI s.next a)) 0 := rfl
    have e2 : (cutB a data.length s.next (s.room - s.taken)) = min (s.room - s.taken - aheadI s.next a) data.length := rfl
    have hc : aheadI s.next (addI a (cutA a s.next)) = aheadI s.next a + cutA a s.next := by
      rw [e1, e2] at hlt
      rw [e1]
      have hb := aheadI_bd s.next a
      have h1 : aheadI s.next a = (a - s.next) % 4294967296 ∨ aheadI s.next a = (a - s.next) % 4294967296 - 4294967296 := by unfold aheadI; split <;> simp
      generalize aheadI s.next a = off at *
      unfold aheadI addI
      have h2 : ((a + max (-off) 0) % 4294967296 - s.next) % 4294967296 = off + max (-off) 0 := by
        rcases h1 with h1 | h1 <;> omega
      rw [h2]
      split <;> omega
    simp only [hc, List.length_take, List.length_drop]
    refine ⟨addI_bd _ _, ?_⟩
    clear hc ho hz
    generalize aheadI s.next a = off at *
    generalize cutA a s.next = A at *
    generalize cutB a data.length s.next (s.room - s.taken) = B at *
    omega
theorem BS.anew_keys {s : BS} (ok : s.ok) {a : Int} (ha : U32 a) (data : List UInt8) (hd : data.length ≤ 1048576) : ∀ k ∈ AL.keys (s.anew a data), s.taken ≤ k ∧ k < s.room := fun k hk => by
  obtain ⟨_, h1, h2⟩ := BS.cut_in ok ha data hd
  rcases insL_keys _ _ _ hk with h | h
  · exact ok.keys k h
  · omega
theorem BS.anew_ok {s : BS} (ok : s.ok) {a : Int} (ha : U32 a) (data : List UInt8) (hd : data.length ≤ 1048576) : ({ s with m := s.anew a data } : BS).ok :=
  ⟨ok.f, ok.t0, ok.tr, ok.r, BS.anew_keys ok ha data hd, insL_nd _ _ ok.nd⟩

/-! ### the closure of Put -/
set_option maxHeartbeats 400000 in
theorem put1_any {w : World} {b mb c1 c2 : Nat} {s : BS} (h : BuffAt w b mb s) (n : Nat) (f t : Int) (q1 : w.cell? ⟨c1, 0, none⟩ = some (.pointer (some ⟨b, 0, none⟩))) (q2 : w.heap[c2]? = some (.cells #[.int .i64 n] 3 (0, 0))) (hn : n ≤ 20000) :
    Calls Tryz.prog 93 #[.int .i64 f, .int .i64 t, .pointer (some ⟨c1, 0, none⟩), .pointer (some ⟨c2, 0, none⟩)] w fun e w' => e = .returned (.tuple #[]) ∧ w'.heap[c2]? = some (.cells #[.int .i64 ((if s.taken < f then n + 1 else n : Nat) : Int)] 3 (0, 0)) ∧ Keeps [c2] w w' := by
  have h1 := h.c1
  have h2 := cell_of_block q2 0
  have h3 := free_of_block q2 0
  simp at h2
  have HS := Lib.hid (heap_setCell_self q2 0 (.int .i64 (n + 1)))
  have Q2 := Lib.hid q2
  clear h q2
  by_cases hf : s.taken < f
  · have F := Lib.hid (show ((if s.taken < f then n + 1 else n : Nat) : Int) = n + 1 by rw [if_pos hf]; rfl)
    go_enter Tryz.func93, Tryz.ntmps93
    go_wp2
    go_end0
    exact ⟨rfl, by rw [HS.out]; rfl, Keeps.setCell w ⟨c2, 0, none⟩ _⟩
  · have F := Lib.hid (show ((if s.taken < f then n + 1 else n : Nat) : Int) = n by rw [if_neg hf])
    have hf1 : f ≤ s.taken := by omega
    clear hf
    go_enter Tryz.func93, Tryz.ntmps93
    go_wp2
    go_end0
    exact ⟨rfl, Q2.out, Keeps.refl _ _⟩

theorem put_inv {w : World} {b mb c1 c2 : Nat} {s : BS} (h : BuffAt w b mb s) (q1 : w.cell? ⟨c1, 0, none⟩ = some (.pointer (some ⟨b, 0, none⟩))) (q2 : w.heap[c2]? = some (.cells #[.int .i64 0] 3 (0, 0))) (n1 : c1 ≠ c2) (n2 : b ≠ c2) (n3 : mb ≠ c2) :
    RunInv [c2] 93 (.pointer (some ⟨c1, 0, none⟩)) (.pointer (some ⟨c2, 0, none⟩)) w (fun W d w' => w'.heap[c2]? = some (.cells #[.int .i64 (cntR s.taken d)] 3 (0, 0)) ∧ Keeps [c2] W w') where
  old := fun x hx => by simp at hx; subst hx; exact lt_of_block q2
  start := fun W hW => ⟨by rw [hW.block _ (lt_of_block q2) (by simp)]; exact q2, Keeps.refl _ _⟩
  keep := fun W d w' _ hI => hI.2
  step := fun W d w' f t hW hI hd _ _ _ _ => by
    have hB := (h.keep hW (by simp) (by simp)).keep hI.2 (by simpa using n2) (by simpa using n3)
    have hc := cell_keeps hI.2 (cell_keeps hW q1 (by simp)) (by simpa using n1)
    refine (put1_any hB (cntR s.taken d) f t hc hI.1 (by have := cntR_le s.taken d; omega)).mono fun e w'' ⟨h1, h2, h3⟩ => ⟨h1, ?_, hI.2.trans h3⟩
    rw [h2, cntR_snoc]
end Go.Proofs.YtakgohocimlagaaGreat
