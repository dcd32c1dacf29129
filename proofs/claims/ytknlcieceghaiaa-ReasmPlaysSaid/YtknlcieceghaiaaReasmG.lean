/-
  The plain law that a buffer of package reasm and the document's row of places tell the same, call by call. No condition but the buffer's own (BS.ok).
-/
import Derived.Test.YtknlcieceghaiaaReasmF
namespace Go.Proofs.Ytknlcieceghaiaa
open Go.RowKit
set_option linter.unusedVariables false
set_option linter.unusedSimpArgs false

structure Sim (s : BS) (r : RB) : Prop where
  at_ : r.at_ = s.next
  len : r.len = s.len
  g : ∀ j, j < s.len → r.g j = s.g j
  y : ∀ j, j < s.len → s.g j = true → AL.find (s.taken + j) s.m = some (r.y j)
theorem BS.len_int {s : BS} (ok : s.ok) : (s.len : Int) = s.room - s.taken := by
  have := ok.tr
  unfold BS.len
  omega
theorem Sim.ok {s : BS} {r : RB} (h : Sim s r) (ok : s.ok) : r.ok := ⟨by rw [h.at_]; exact s.next_bd, by rw [h.len]; have := BS.len_int ok; have := ok.r; have := ok.t0; omega⟩
theorem Sim.new {next : Int} (hu : U32 next) (n : Nat) : Sim ⟨next, 0, n, []⟩ (RB.new next n) where
  at_ := by unfold RB.new BS.next addI; have := hu.1; have := hu.2; simp only; omega
  len := by unfold RB.new BS.len; simp
  g := fun j _ => by unfold RB.new BS.g; simp [AL.find]
  y := fun j _ h => by unfold BS.g at h; simp [AL.find] at h
theorem new_okB {next : Int} (hu : U32 next) {n : Nat} (hn : n ≤ 16384) : BS.ok ⟨next, 0, n, []⟩ := ⟨hu, Int.le_refl _, by simp, by simp; omega, by simp [AL.keys], by simp [AL.keys]⟩
theorem Sim.held {s : BS} {r : RB} (h : Sim s r) (ok : s.ok) : r.held = s.held := by
  rw [held_eq ok]
  unfold RB.held RB.heldI
  rw [h.len, h.at_, heldD_congr (fun j hj => h.g j hj) s.len (Nat.le_refl _)]
theorem held_length {s : BS} (ok : s.ok) : s.held.length = cntR s.taken (runsOf s.m) := heldR_len s (runsOf s.m)
def BS.putB (s : BS) (a : Int) (data : List UInt8) : BS := { s with m := s.anew a data }
theorem Sim.put {s : BS} {r : RB} (h : Sim s r) (ok : s.ok) {a : Int} (ha : U32 a) (data : List UInt8) (hd : data.length ≤ 1048576) : Sim (s.putB a data) (r.put a data) := by
  have hpg := fun j (hj : j < s.len) => BS.put_get ok ha data hd j hj
  have hget : ∀ j : Nat, (aheadI s.next a ≤ (j : Int)) → (data[((j : Int) - aheadI s.next a).toNat]?).isSome = decide ((j : Int) < aheadI s.next a + data.length) := fun j hj => by
    by_cases hlt : ((j : Int) - aheadI s.next a).toNat < data.length
    · rw [List.getElem?_eq_getElem hlt, decide_eq_true (by omega)]; rfl
    · rw [List.getElem?_eq_none (by omega), decide_eq_false (by omega)]; rfl
  refine ⟨h.at_, h.len, fun j hj => ?_, fun j hj hg => ?_⟩
  · have hj' : j < s.len := hj
    show (r.putI (aheadI r.at_ a) data data.length).g j = (AL.find (s.taken + j) (s.anew a data)).isSome
    rw [hpg j hj', h.at_]
    unfold RB.putI
    simp only
    rw [h.g j hj']
    unfold BS.g
    cases hf : AL.find (s.taken + j) s.m with
    | some x => simp
    | none =>
      simp only [Option.isSome_none, Bool.false_or]
      by_cases h1 : aheadI s.next a ≤ (j : Int)
      · rw [if_pos h1, hget j h1, decide_eq_true h1, Bool.true_and]
      · rw [if_neg h1, decide_eq_false h1]; rfl
  · have hj' : j < s.len := hj
    show AL.find (s.taken + j) (s.anew a data) = some ((r.putI (aheadI r.at_ a) data data.length).y j)
    have hg' : (AL.find (s.taken + j) (s.anew a data)).isSome = true := hg
    rw [hpg j hj'] at hg' ⊢
    unfold RB.putI
    simp only
    rw [h.g j hj', h.at_]
    cases hf : AL.find (s.taken + j) s.m with
    | some x =>
      have hgj : s.g j = true := by unfold BS.g; rw [hf]; rfl
      rw [if_pos hgj]
      have := h.y j hj' hgj
      rw [hf] at this
      exact this
    | none =>
      have hgj : s.g j = false := by unfold BS.g; rw [hf]; rfl
      rw [hf] at hg'
      simp only at hg' ⊢
      rw [if_neg (show ¬ s.g j = true from by rw [hgj]; simp)]
      by_cases h1 : aheadI s.next a ≤ (j : Int)
      · rw [if_pos h1] at hg' ⊢
        rw [hget j h1, decide_eq_true_eq] at hg'
        rw [if_pos ⟨h1, hg'⟩, List.getD_eq_getElem?_getD, List.getElem?_eq_getElem (by omega)]
        rfl
      · rw [if_neg h1] at hg'; cases hg'
theorem putB_ok {s : BS} (ok : s.ok) {a : Int} (ha : U32 a) (data : List UInt8) (hd : data.length ≤ 1048576) : (s.putB a data).ok := BS.anew_ok ok ha data hd
theorem Sim.holes {s : BS} {r : RB} (h : Sim s r) (ok : s.ok) {a : Int} (ha : U32 a) (data : List UInt8) (hd : data.length ≤ 1048576) : s.holes a data = (r.put a data).held.length := by
  rw [(h.put ok ha data hd).held (putB_ok ok ha data hd), held_length (putB_ok ok ha data hd)]
  rfl
theorem Sim.count {s : BS} {r : RB} (h : Sim s r) (ok : s.ok) {a : Int} (ha : U32 a) (data : List UInt8) (hd : data.length ≤ 1048576) {cn : Nat} (hc : cn + cntF r.len r.g = cntF r.len (r.put a data).g) : ((s.anew a data).length : Int) - s.m.length = cn := by
  have h1 := len_win ok
  have h2 := len_win (putB_ok ok ha data hd)
  have e1 : cntF s.len s.g = cntF r.len r.g := by rw [h.len]; exact cntF_congr fun j hj => (h.g j hj).symm
  have h' := h.put ok ha data hd
  have e2 : cntF (s.putB a data).len (s.putB a data).g = cntF r.len (r.put a data).g := by
    have hl : (s.putB a data).len = r.len := h.len.symm
    rw [hl]
    exact cntF_congr fun j hj => (h'.g j (by rw [hl]; exact hj)).symm
  have h3 : (s.putB a data).m = s.anew a data := rfl
  rw [h3] at h2
  omega
theorem Sim.ready {s : BS} {r : RB} (h : Sim s r) (ok : s.ok) : r.ready = s.ready := by
  have hle := BS.ready_le ok
  have hl := BS.len_int ok
  have hrl : s.ready ≤ s.len := by omega
  refine ready_eq (by rw [h.len]; exact hrl) (fun x hx => ?_) ?_
  · rw [h.g x (by omega)]
    obtain ⟨z, hz⟩ := s.ready_in x hx
    unfold BS.g
    rw [hz]; rfl
  · by_cases he : s.ready = s.len
    · exact .inl (by rw [h.len]; exact he)
    · right
      rw [h.g s.ready (by omega)]
      unfold BS.g
      rw [BS.ready_end ok]; rfl
theorem Sim.take {s : BS} {r : RB} (h : Sim s r) (ok : s.ok) : Sim s.take r.take := by
  have hr := h.ready ok
  have hle := BS.ready_le ok
  have hl := BS.len_int ok
  have htl : s.take.len = s.len - s.ready := by
    unfold BS.len BS.take at *
    simp only
    omega
  refine ⟨?_, ?_, fun j hj => ?_, fun j hj hg => ?_⟩
  · unfold RB.take BS.take BS.next
    simp only
    rw [h.at_, hr]
    unfold BS.next
    rw [addI_two]
  · rw [htl]
    unfold RB.take
    simp only
    rw [h.len, hr]
  · rw [htl] at hj
    show r.g (r.ready + j) = s.take.g j
    rw [hr, h.g (s.ready + j) (by omega)]
    unfold BS.g BS.take
    simp only
    rw [delN_find ok.nd, if_neg (by omega)]
    congr 2
    push_cast
    omega
  · rw [htl] at hj
    have hgg : s.g (s.ready + j) = true := by
      unfold BS.g BS.take at hg
      simp only at hg
      rw [delN_find ok.nd, if_neg (by omega)] at hg
      unfold BS.g
      rw [show s.taken + ((s.ready + j : Nat) : Int) = s.taken + (s.ready : Int) + (j : Int) by push_cast; omega]
      exact hg
    have hy := h.y (s.ready + j) (by omega) hgg
    show AL.find (s.taken + (s.ready : Int) + (j : Int)) (delN s.m s.taken s.ready) = some (r.y (r.ready + j))
    rw [delN_find ok.nd, if_neg (by omega), hr, ← hy]
    congr 1
    push_cast
    omega
theorem Sim.out {s : BS} {r : RB} (h : Sim s r) (ok : s.ok) : r.out = s.out := by
  have hr := h.ready ok
  have hle := BS.ready_le ok
  have hl := BS.len_int ok
  unfold RB.out BS.out
  rw [hr]
  apply List.ext_getElem?
  intro i
  rw [List.getElem?_take]
  unfold bytesN
  rw [List.getElem?_map]
  by_cases hi : i < s.ready
  · rw [if_pos hi, RB.by_at (by rw [h.len]; omega), List.getElem?_range hi]
    obtain ⟨z, hz⟩ := s.ready_in i hi
    have hg : s.g i = true := by unfold BS.g; rw [hz]; rfl
    have hy := h.y i (by omega) hg
    simp only [Option.map_some]
    rw [hy]; rfl
  · rw [if_neg hi, List.getElem?_eq_none (by simpa using by omega)]; rfl
theorem held_u32 (s : BS) : ∀ x ∈ s.held, U32 x.1 ∧ U32 x.2 := fun x hx => by
  unfold BS.held heldR at hx
  obtain ⟨p, _, rfl⟩ := List.mem_map.1 hx
  exact ⟨addI_bd _ _, addI_bd _ _⟩
end Go.Proofs.Ytknlcieceghaiaa
