/-
  The plain law of EndpTakes: what is taken of a stream's pieces is a beginning of it. No condition but the sizes.
-/
import Derived.Test.YtakgohocimlagaaEpG
import Derived.Test.YtakgohocimlagaaStreamQ
namespace Go.Proofs.Ytakgohocimlagaa
open Go.RowKit
set_option linter.unusedVariables false
set_option linter.unusedSimpArgs false

/-- the end has taken a beginning of the stream; it has ended only where all of it came -/
structure TInv (S : List UInt8) (F : Int) (M : Nat) (ended : Bool) (st : BS) (tl : List UInt8) : Prop where
  inv : ∃ P, StreamInv S F M st P tl
  fin : ended = true → tl.length = S.length
theorem TInv.pre {S : List UInt8} {F : Int} {M : Nat} {ended : Bool} {st : BS} {tl : List UInt8} (I : TInv S F M ended st tl) : tl = S.take tl.length ∧ tl.length ≤ S.length ∧ st.taken = tl.length ∧ st.room = M ∧ st.first = F ∧ tl.length ≤ M := by
  obtain ⟨P, I⟩ := I.inv
  have h := congrArg List.length I.out
  simp at h
  have := I.ok.tr
  have h1 := I.tk
  have h2 := I.eroom
  exact ⟨I.out, by omega, I.tk, I.eroom, I.efirst, by omega⟩
theorem put_keep {S : List UInt8} {F : Int} {M : Nat} {st : BS} {P : List Bool} {tl : List UInt8} (I : StreamInv S F M st P tl) (hS : S.length ≤ 600) (hM : M ≤ 16384) {frm tt : Nat} (h1 : frm ≤ tt) (h2 : tt ≤ S.length) :
    ∃ P', StreamInv S F M (st.put (addI F frm) ((S.drop frm).take (tt - frm))) P' tl := by
  unfold BS.put
  split
  · exact ⟨P, I⟩
  · rename_i h
    exact ⟨_, (I.putStep hS h1 h2 hM).2 (by omega)⟩
theorem TInv.step {S : List UInt8} {F : Int} {M : Nat} {st : BS} {tl : List UInt8} {s : ES} (I : TInv S F M s.ended st tl) (hS : S.length ≤ 600) (hM : M ≤ 16384) {frm tt : Nat} (h1 : frm ≤ tt) (h2 : tt ≤ S.length)
    (g : Seg) (hq : g.sq = addI F frm) (hd : g.data = (S.drop frm).take (tt - frm)) (hf : has g.fl 1 = true → tt = S.length) (k : Nat) (tak : Value) (hk : k ≠ 2) :
    TInv S F M (nEnd k s st tak g).ended (nSt k st g) (nTl k st tl g) := by
  unfold nEnd nSt nTl
  by_cases h3 : k = 3
  · rw [if_pos h3, if_pos h3, if_pos h3]
    obtain ⟨P, J⟩ := I.inv
    rw [hq, hd]
    obtain ⟨P', J'⟩ := put_keep J hS hM h1 h2
    have T := J'.takeStep
    refine ⟨⟨_, T⟩, fun he => ?_⟩
    have hlen := congrArg List.length T.out
    simp only [List.length_take] at hlen
    have hle : (tl ++ (st.put (addI F frm) ((S.drop frm).take (tt - frm))).out).length ≤ S.length := by omega
    simp only [Bool.or_eq_true] at he
    rcases he with he | he
    · have := I.fin he
      have h4 : tl.length ≤ (tl ++ (st.put (addI F frm) ((S.drop frm).take (tt - frm))).out).length := by simp
      omega
    · unfold endsC at he
      rw [hq, hd] at he
      simp only [Bool.and_eq_true, decide_eq_true_eq] at he
      obtain ⟨e1, e2⟩ := he
      have ht := hf e1
      have hl : ((S.drop frm).take (tt - frm)).length = tt - frm := by simp; omega
      rw [hl] at e2
      have e3 : addI (addI F frm) ((tt - frm : Nat) : Int) = addI F tt := by rw [addI_addI]; congr 1; omega
      rw [e3] at e2
      unfold BS.next at e2
      rw [T.efirst, T.tk] at e2
      generalize (tl ++ (st.put (addI F frm) ((S.drop frm).take (tt - frm))).out).length = L at e2 hle ⊢
      unfold addI at e2
      omega
  · rw [if_neg h3, if_neg h3, if_neg h3, if_neg hk]
    exact I
theorem TInv.start {S : List UInt8} {F : Int} {M : Nat} (h0 : U32 F) (hM : M ≤ 16384) : TInv S F M false ⟨F, 0, M, []⟩ [] := ⟨⟨_, StreamInv.start h0 hM⟩, fun h => by cases h⟩
theorem cliK_le (s : ES) (st : BS) (g : Seg) (h4 : has g.fl 4 = false) : cliK s st g ≠ 2 := by
  unfold cliK
  rw [h4]
  split
  · decide
  · simp only [Bool.false_eq_true, if_false]
    split
    · decide
    · split <;> decide
theorem cliK_odd (s : ES) (st : BS) (g : Seg) (h : has g.fl 2 = true ∨ has g.fl 4 = false ∧ (has g.fl 16 = false ∨ g.ak ≠ (s.iss + 1) % 4294967296)) : cliK s st g ≠ 3 := by
  unfold cliK
  rcases h with h | ⟨h4, h⟩
  · rw [if_pos h]; decide
  · split
    · decide
    · rw [h4]
      simp only [Bool.false_eq_true, if_false]
      rcases h with h | h
      · rw [if_pos h]; decide
      · split
        · decide
        · rw [if_pos (.inl h)]; decide
theorem nTl_same {k : Nat} (hk : k ≠ 3) (st : BS) (tl : List UInt8) (g : Seg) : nTl k st tl g = tl := by unfold nTl; rw [if_neg hk]
theorem nTl_le (k : Nat) (st : BS) (tl : List UInt8) (g : Seg) : tl.length ≤ (nTl k st tl g).length := by unfold nTl; split <;> simp
end Go.Proofs.Ytakgohocimlagaa
