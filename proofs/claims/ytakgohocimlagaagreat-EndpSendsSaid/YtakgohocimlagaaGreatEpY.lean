/-
  Plain laws of a stream put in pieces: what a Put of a piece finds, how many bytes it adds; what a Take takes. Of no program's code. No condition. The plain law of EndpTakes: what is taken of a stream's pieces is a beginning of it. No condition but the sizes. The helper law setup of package culvertlaw20; a law's pieces opened. No condition.
-/
import Derived.Test.YtakgohocimlagaaGreatReasmN
import Derived.Test.YtakgohocimlagaaGreatReasmX
import Derived.Test.YtakgohocimlagaaGreatEpZ
import Derived.OpenShut
import Derived.Lib.SmallJoins
import Derived.Deep.Strs
namespace Go.Proofs.YtakgohocimlagaaGreat
open Go.RowKit
set_option linter.unusedVariables false
set_option linter.unusedSimpArgs false

theorem aheadI_addI (f x y : Int) (h : -2147483648 ≤ y - x ∧ y - x ≤ 2147483647) : aheadI (addI f x) (addI f y) = y - x := by
  unfold aheadI addI
  have : ((f + y) % 4294967296 - (f + x) % 4294967296) % 4294967296 = (y - x) % 4294967296 := by omega
  rw [this]
  split <;> omega
theorem addI_addI (f x y : Int) : addI (addI f x) y = addI f (x + y) := by unfold addI; omega

theorem cntF_cut {N K : Nat} {f : Nat → Bool} (hK : K ≤ N) (h : ∀ i, K ≤ i → i < N → f i = false) : cntF N f = cntF K f := by
  induction N with
  | zero => have : K = 0 := by omega
            rw [this]
  | succ N ih =>
    rcases Nat.lt_or_ge N K with h1 | h1
    · have : K = N + 1 := by omega
      rw [this]
    · rw [cntF_succ, ih h1 (fun i h2 h3 => h i h2 (by omega)), h N h1 (by omega)]; rfl

/-- what a Put of the piece of a stream finds -/
theorem put_find {s : BS} (ok : s.ok) {first : Int} (hf : s.first = first) {T M : Nat} (hT : s.taken = T) (hM : s.room = M) {S : List UInt8} (hS : S.length ≤ 1048576) {frm tt : Nat} (h1 : frm ≤ tt) (h2 : tt ≤ S.length) (j : Nat) :
    AL.find (j : Int) (s.anew (addI first frm) ((S.drop frm).take (tt - frm))) = match AL.find (j : Int) s.m with
      | some x => some x
      | none => if max frm T ≤ j ∧ j < min tt M then S[j]? else none := by
  have t1 := ok.tr
  have t2 := ok.r
  have hlen : ((S.drop frm).take (tt - frm)).length = tt - frm := by simp; omega
  unfold BS.anew
  rw [insL_find]
  cases hj : AL.find (j : Int) s.m with
  | some x => rfl
  | none =>
    simp only []
    unfold BS.place BS.cut
    have hn : s.next = addI first T := by unfold BS.next; rw [hf, hT]
    have ho : aheadI s.next (addI first frm) = frm - T := by rw [hn]; exact aheadI_addI _ _ _ (by omega)
    have hA : cutA (addI first frm) s.next = max ((T : Int) - frm) 0 := by unfold cutA; rw [ho]; omega
    have hB : cutB (addI first frm) ((S.drop frm).take (tt - frm)).length s.next (s.room - s.taken) = min (M : Int) tt - frm := by unfold cutB; rw [ho, hlen, hM, hT]; omega
    unfold cutI
    rw [hA, hB]
    split
    · rename_i hge
      have : ¬ (max frm T ≤ j ∧ j < min tt M) := by omega
      rw [if_neg this]
      simp
    · rename_i hlt
      simp only
      have hp : aheadI s.next (addI (addI first frm) (max ((T : Int) - frm) 0)) = (frm : Int) + max ((T : Int) - frm) 0 - T := by
        rw [hn, addI_addI]; exact aheadI_addI _ _ _ (by omega)
      rw [hp, hT]
      have hpl : (T : Int) + ((frm : Int) + max ((T : Int) - frm) 0 - T) = max (frm : Int) T := by omega
      rw [hpl]
      by_cases hc : max frm T ≤ j
      · rw [if_pos (by omega)]
        rw [List.getElem?_take, List.getElem?_drop]
        by_cases hd : j < min tt M
        · rw [if_pos (by omega), if_pos (by omega), List.getElem?_take, if_pos (by omega), List.getElem?_drop]
          congr 1
          omega
        · rw [if_neg (by omega), if_neg (by omega)]
      · rw [if_neg (by omega), if_neg (by omega)]

structure StreamInv (S : List UInt8) (first : Int) (M : Nat) (st : BS) (P : List Bool) (o : List UInt8) : Prop where
  ok : st.ok
  efirst : st.first = first
  eroom : st.room = M
  plen : P.length = S.length
  put : ∀ i, i < S.length → P[i]? = some (decide ((i : Int) < st.taken) || (AL.find (i : Int) st.m).isSome)
  byt : ∀ (i : Nat) x, AL.find (i : Int) st.m = some x → S[i]? = some x
  tk : st.taken = o.length
  out : o = S.take o.length
  holes : cntR st.taken (runsOf st.m) ≤ 16

theorem StreamInv.start {S : List UInt8} {first : Int} {M : Nat} (h0 : U32 first) (hM : M ≤ 16384) : StreamInv S first M ⟨first, 0, M, []⟩ (List.replicate S.length false) [] where
  ok := ⟨h0, Int.le_refl _, by simp, by simp; omega, by simp [AL.keys], by simp [AL.keys]⟩
  efirst := rfl
  eroom := rfl
  plen := by simp
  put := fun i hi => by simp [AL.find, hi]
  byt := fun i x h => by simp [AL.find] at h
  tk := rfl
  out := rfl
  holes := by simp [runsOf, keysS, AL.keys, runFold, runEnd, cntR]

variable {S : List UInt8} {first : Int} {M : Nat} {st : BS} {P : List Bool} {o : List UInt8}
theorem StreamInv.kb (I : StreamInv S first M st P o) : ∀ k ∈ AL.keys st.m, 0 ≤ k ∧ k < ((16384 : Nat) : Int) := fun k hk => by
  have := I.ok.keys k hk
  have := I.ok.t0
  have := I.ok.r
  omega
/-- bools laid true from p up tt q -/
def setT (P : List Bool) (p q : Nat) : List Bool := P.mapIdx fun i b => b || (decide (p ≤ i) && decide (i < q))
theorem setT_get (P : List Bool) (p q i : Nat) : (setT P p q)[i]? = (P[i]?).map fun b => b || (decide (p ≤ i) && decide (i < q)) := by simp [setT]
theorem setT_len (P : List Bool) (p q : Nat) : (setT P p q).length = P.length := by simp [setT]
theorem setT_none (P : List Bool) (p : Nat) : setT P p p = P := by
  apply List.ext_getElem?
  intro i
  rw [setT_get]
  have : (decide (p ≤ i) && decide (i < p)) = false := by
    rw [Bool.and_eq_false_iff]
    by_cases h : p ≤ i
    · right; simp; omega
    · left; simpa using h
  cases P[i]? <;> simp [this]
theorem setT_succ (P : List Bool) {p q : Nat} (h : p ≤ q) : (setT P p q).set q true = setT P p (q + 1) := by
  apply List.ext_getElem?
  intro i
  rw [List.getElem?_set, setT_get, setT_get]
  by_cases hi : q = i
  · subst hi
    rw [if_pos rfl, setT_len]
    rcases Nat.lt_or_ge q P.length with hl | hl
    · rw [if_pos hl, List.getElem?_eq_getElem hl]
      simp [h]
    · rw [if_neg (by omega), List.getElem?_eq_none hl]; rfl
  · rw [if_neg hi]
    have : (decide (p ≤ i) && decide (i < q + 1)) = (decide (p ≤ i) && decide (i < q)) := by
      congr 1
      have : (i < q + 1) ↔ (i < q) := by omega
      simp [this]
    rw [this]

/-- how many are new -/
def freshN (P : List Bool) (frm K : Nat) : Nat := cntF K (fun i => decide (frm ≤ i) && !(P.getD i false))
theorem freshN_start (P : List Bool) (frm : Nat) : freshN P frm frm = 0 := cntF_false fun i hi => by simp; omega
theorem freshN_succ (P : List Bool) {frm K : Nat} (h : frm ≤ K) : freshN P frm (K + 1) = freshN P frm K + (if P.getD K false then 0 else 1) := by
  unfold freshN
  rw [cntF_succ]
  have hd : decide (frm ≤ K) = true := decide_eq_true h
  rw [hd]
  cases P.getD K false <;> simp

/-- a piece put -/
theorem StreamInv.putStep (I : StreamInv S first M st P o) (hS : S.length ≤ 600) {frm tt : Nat} (h1 : frm ≤ tt) (h2 : tt ≤ S.length) (hM : M ≤ 16384) :
    (st.anew (addI first frm) ((S.drop frm).take (tt - frm))).length = st.m.length + freshN P frm (max frm (min tt M)) ∧
    (st.holes (addI first frm) ((S.drop frm).take (tt - frm)) ≤ 16 → StreamInv S first M { st with m := st.anew (addI first frm) ((S.drop frm).take (tt - frm)) } (setT P frm (max frm (min tt M))) o) := by
  have hol : o.length ≤ S.length := by have := congrArg List.length I.out; simp at this; omega
  have hu : U32 (addI first frm) := addI_bd _ _
  have hdl : ((S.drop frm).take (tt - frm)).length ≤ 1048576 := by simp; omega
  have hfind := put_find I.ok I.efirst I.tk I.eroom (S := S) (by omega) h1 h2
  have hok := BS.anew_ok I.ok hu _ hdl
  obtain ⟨N, hN⟩ : ∃ N : Nat, N = 16384 := ⟨_, rfl⟩
  have ikb : ∀ k ∈ AL.keys st.m, 0 ≤ k ∧ k < (N : Int) := by rw [hN]; exact I.kb
  have hkb : ∀ k ∈ AL.keys (st.anew (addI first frm) ((S.drop frm).take (tt - frm))), 0 ≤ k ∧ k < (N : Int) := fun k hk => by
    have := BS.anew_keys I.ok hu _ hdl k hk
    have := I.ok.t0
    have := I.ok.r
    omega
  have hsome : ∀ i : Nat, (AL.find (i : Int) (st.anew (addI first frm) ((S.drop frm).take (tt - frm)))).isSome = ((AL.find (i : Int) st.m).isSome || (decide (max frm o.length ≤ i) && decide (i < min tt M))) := fun i => by
    rw [hfind i]
    cases hj : AL.find (i : Int) st.m with
    | some x => simp
    | none =>
      simp only [Option.isSome_none, Bool.false_or]
      by_cases hc : max frm o.length ≤ i ∧ i < min tt M
      · rw [if_pos hc, List.getElem?_eq_getElem (by omega)]
        simp [hc.1, hc.2]
      · rw [if_neg hc]
        simp only [Option.isSome_none]
        rw [eq_comm, Bool.and_eq_false_iff]
        by_cases hh : max frm o.length ≤ i
        · right; simp only [decide_eq_false_iff_not]; exact fun h => hc ⟨hh, h⟩
        · left; simpa using hh
  have hput : ∀ i, i < S.length → P.getD i false = (decide (i < o.length) || (AL.find (i : Int) st.m).isSome) := fun i hi => by
    have := I.put i hi
    rw [List.getD_eq_getElem?_getD, this, I.tk]
    simp
  refine ⟨?_, fun hh => ?_⟩
  · rw [len_cnt hok.nd hkb, len_cnt I.ok.nd ikb]
    have e1 : cntF N (fun i => (AL.find (i : Int) (st.anew (addI first frm) ((S.drop frm).take (tt - frm)))).isSome) = cntF N (fun i => (AL.find (i : Int) st.m).isSome || (decide (max frm o.length ≤ i) && decide (i < min tt M) && !(AL.find (i : Int) st.m).isSome)) := cntF_congr fun i _ => by
      rw [hsome i]
      cases (AL.find (i : Int) st.m).isSome <;> simp
    show cntF N (fun i => (AL.find (i : Int) (st.anew (addI first frm) ((S.drop frm).take (tt - frm)))).isSome) = _
    rw [e1, cntF_or]
    · congr 1
      rw [cntF_cut (K := max frm (min tt M)) (by omega)]
      · unfold freshN
        refine cntF_congr fun i hi => ?_
        by_cases hfi : frm ≤ i
        · have hi2 : i < min tt M := by omega
          rw [hput i (by omega)]
          by_cases hti : i < o.length
          · have : ¬ (max frm o.length ≤ i) := by omega
            simp [hti, this]
          · have : max frm o.length ≤ i := by omega
            simp [hti, this, hi2, hfi]
        · have : ¬ (max frm o.length ≤ i) := by omega
          simp [this, hfi]
      · intro i h3 h4
        have : ¬ (i < min tt M) ∨ ¬ (max frm o.length ≤ i) := by omega
        rcases this with h | h <;> simp [h]
    · intro i _ h
      rw [h]; simp
  · refine ⟨hok, I.efirst, I.eroom, by rw [setT_len, I.plen], fun i hi => ?_, fun i x hx => ?_, I.tk, I.out, hh⟩
    · rw [setT_get, I.put i hi]
      simp only [Option.map_some, Option.some.injEq]
      rw [hsome i, I.tk]
      by_cases hti : (i : Int) < o.length
      · simp [hti]
      · have ht2 : ¬ i < o.length := by omega
        cases (AL.find (i : Int) st.m).isSome
        · simp only [hti, decide_false, Bool.or_false, Bool.false_or]
          rw [Bool.eq_iff_iff]
          simp only [Bool.and_eq_true, decide_eq_true_eq]
          omega
        · simp
    · rw [hfind i] at hx
      cases hj : AL.find (i : Int) st.m with
      | some y => rw [hj] at hx; simp only [Option.some.injEq] at hx; subst hx; exact I.byt i y hj
      | none =>
        rw [hj] at hx
        simp only [] at hx
        split at hx
        · exact hx
        · cases hx

/-- a Take -/
theorem StreamInv.takeStep (I : StreamInv S first M st P o) : StreamInv S first M st.take P (o ++ st.out) := by
  have hr := st.ready_in
  have he := BS.ready_end I.ok
  have hnd := I.ok.nd
  have hfd : ∀ j : Int, AL.find j st.take.m = if st.taken ≤ j ∧ j < st.taken + st.ready then none else AL.find j st.m := fun j => delN_find hnd _ j _
  have hol : o.length ≤ S.length := by have := congrArg List.length I.out; simp at this; omega
  have hlen : st.out.length = st.ready := bytesN_len _ _ _
  have htk : st.take.taken = o.length + st.ready := by show st.taken + (st.ready : Int) = _; rw [I.tk]
  have hbyte : ∀ i, i < st.ready → ∃ x, AL.find (st.taken + i) st.m = some x ∧ S[o.length + i]? = some x := fun i hi => by
    obtain ⟨x, hx⟩ := hr i hi
    refine ⟨x, hx, I.byt _ x ?_⟩
    rw [← hx, I.tk]; rfl
  refine ⟨BS.take_ok I.ok, I.efirst, I.eroom, I.plen, fun i hi => ?_, fun i x hx => ?_, ?_, ?_, ?_⟩
  · rw [I.put i hi, hfd]
    simp only [Option.some.injEq]
    rw [htk, I.tk]
    by_cases h1 : (i : Int) < o.length
    · have h2 : (i : Int) < o.length + st.ready := by omega
      simp [h1, h2]
    · by_cases h2 : (i : Int) < o.length + st.ready
      · obtain ⟨x, hx, _⟩ := hbyte (i - o.length) (by omega)
        have e : st.taken + ((i - o.length : Nat) : Int) = i := by rw [I.tk]; omega
        rw [e] at hx
        simp [h2, hx]
      · rw [if_neg (by omega)]
        simp [h1, h2]
  · rw [hfd] at hx
    split at hx
    · cases hx
    · exact I.byt i x hx
  · rw [htk, List.length_append, hlen]; push_cast; rfl
  · apply List.ext_getElem?
    intro i
    rw [List.getElem?_take]
    rw [List.length_append, hlen]
    rcases Nat.lt_or_ge i o.length with h1 | h1
    · rw [List.getElem?_append_left h1, if_pos (by omega)]
      have := congrArg (fun l : List UInt8 => l[i]?) I.out
      rw [this, List.getElem?_take, if_pos h1]
    · rw [List.getElem?_append_right h1]
      by_cases h2 : i < o.length + st.ready
      · rw [if_pos h2]
        obtain ⟨x, hx, hs⟩ := hbyte (i - o.length) (by omega)
        have e : o.length + (i - o.length) = i := by omega
        rw [e] at hs
        rw [hs]
        unfold BS.out bytesN
        rw [List.getElem?_map, List.getElem?_range (by omega)]
        simp only [Option.map_some]
        rw [hx]; rfl
      · rw [if_neg h2, List.getElem?_eq_none (by omega)]
  · have ht : st.take.taken = ((o.length + st.ready : Nat) : Int) := by rw [htk]; push_cast; rfl
    have kb2 : ∀ k ∈ AL.keys st.take.m, 0 ≤ k ∧ k < ((16384 : Nat) : Int) := fun k hk => I.kb k (delN_keys hnd _ _ hk).1
    rw [ht, cntR_cnt (BS.take_ok I.ok).nd kb2]
    have h0 := I.holes
    have ht0 : st.taken = ((o.length : Nat) : Int) := I.tk
    rw [ht0, cntR_cnt hnd I.kb] at h0
    refine Nat.le_trans ?_ h0
    unfold cntF
    refine List.countP_mono_left fun i _ h => ?_
    simp only [Bool.and_eq_true, decide_eq_true_eq, Bool.not_eq_true'] at h ⊢
    obtain ⟨⟨h1, h2⟩, h3⟩ := h
    rw [hfd, if_neg (by rw [I.tk]; omega)] at h2
    refine ⟨⟨by omega, h2⟩, ?_⟩
    rw [hfd] at h3
    split at h3
    · rename_i hc
      rw [I.tk] at hc
      omega
    · exact h3
end Go.Proofs.YtakgohocimlagaaGreat

namespace Go.Proofs.YtakgohocimlagaaGreat
open Go.RowKit
set_option linter.unusedVariables false
set_option linter.unusedSimpArgs false

/-- the end has taken a beginning of the stream; it has ended only where all of it came -/
structure TInv (S : List UInt8) (F : Int) (M : Nat) (ended : Bool) (st : BS) (tl : List UInt8) : Prop where
  inv : ∃ P, StreamInv S F M st P tl
  fin : ended = true → tl.length = S.length
theorem TInv.pre {S : List UInt8} {F : Int} {M : Nat} {ended : Bool} {st : BS} {tl : List UInt8} (I : TInv S F M ended st tl) : tl = S.take tl.length ∧ tl.length ≤ S.length ∧ st.taken = tl.length ∧ st.room = M ∧ st.first = F ∧ tl.length ≤ M := by
  obtain ⟨P, I⟩ := I.inv
  have h := congrArg List.length I.out
  simp at h
  have := I.ok.tr
  have h1 := I.tk
  have h2 := I.eroom
  exact ⟨I.out, by omega, I.tk, I.eroom, I.efirst, by omega⟩
theorem put_keep {S : List UInt8} {F : Int} {M : Nat} {st : BS} {P : List Bool} {tl : List UInt8} (I : StreamInv S F M st P tl) (hS : S.length ≤ 600) (hM : M ≤ 16384) {frm tt : Nat} (h1 : frm ≤ tt) (h2 : tt ≤ S.length) :
    ∃ P', StreamInv S F M (st.put (addI F frm) ((S.drop frm).take (tt - frm))) P' tl := by
  unfold BS.put
  split
  · exact ⟨P, I⟩
  · rename_i h
    exact ⟨_, (I.putStep hS h1 h2 hM).2 (by omega)⟩
theorem TInv.step {S : List UInt8} {F : Int} {M : Nat} {st : BS} {tl : List UInt8} {s : ES} (I : TInv S F M s.ended st tl) (hS : S.length ≤ 600) (hM : M ≤ 16384) {frm tt : Nat} (h1 : frm ≤ tt) (h2 : tt ≤ S.length)
    (g : Seg) (hq : g.sq = addI F frm) (hd : g.data = (S.drop frm).take (tt - frm)) (hf : has g.fl 1 = true → tt = S.length) (k : Nat) (tak : Value) (hk : k ≠ 2) :
    TInv S F M (nEnd k s st tak g).ended (nSt k st g) (nTl k st tl g) := by
  unfold nEnd nSt nTl
  by_cases h3 : k = 3
  · rw [if_pos h3, if_pos h3, if_pos h3]
    obtain ⟨P, J⟩ := I.inv
    rw [hq, hd]
    obtain ⟨P', J'⟩ := put_keep J hS hM h1 h2
    have T := J'.takeStep
    refine ⟨⟨_, T⟩, fun he => ?_⟩
    have hlen := congrArg List.length T.out
    simp only [List.length_take] at hlen
    have hle : (tl ++ (st.put (addI F frm) ((S.drop frm).take (tt - frm))).out).length ≤ S.length := by omega
    simp only [Bool.or_eq_true] at he
    rcases he with he | he
    · have := I.fin he
      have h4 : tl.length ≤ (tl ++ (st.put (addI F frm) ((S.drop frm).take (tt - frm))).out).length := by simp
      omega
    · unfold endsC at he
      rw [hq, hd] at he
      simp only [Bool.and_eq_true, decide_eq_true_eq] at he
      obtain ⟨e1, e2⟩ := he
      have ht := hf e1
      have hl : ((S.drop frm).take (tt - frm)).length = tt - frm := by simp; omega
      rw [hl] at e2
      have e3 : addI (addI F frm) ((tt - frm : Nat) : Int) = addI F tt := by rw [addI_addI]; congr 1; omega
      rw [e3] at e2
      unfold BS.next at e2
      rw [T.efirst, T.tk] at e2
      generalize (tl ++ (st.put (addI F frm) ((S.drop frm).take (tt - frm))).out).length = L at e2 hle ⊢
      unfold addI at e2
      omega
  · rw [if_neg h3, if_neg h3, if_neg h3, if_neg hk]
    exact I
theorem TInv.start {S : List UInt8} {F : Int} {M : Nat} (h0 : U32 F) (hM : M ≤ 16384) : TInv S F M false ⟨F, 0, M, []⟩ [] := ⟨⟨_, StreamInv.start h0 hM⟩, fun h => by cases h⟩
theorem cliK_le (s : ES) (st : BS) (g : Seg) (h4 : has g.fl 4 = false) : cliK s st g ≠ 2 := by
  unfold cliK
  rw [h4]
  split
  · decide
  · simp only [Bool.false_eq_true, if_false]
    split
    · decide
    · split <;> decide
theorem cliK_odd (s : ES) (st : BS) (g : Seg) (h : has g.fl 2 = true ∨ has g.fl 4 = false ∧ (has g.fl 16 = false ∨ g.ak ≠ (s.iss + 1) % 4294967296)) : cliK s st g ≠ 3 := by
  unfold cliK
  rcases h with h | ⟨h4, h⟩
  · rw [if_pos h]; decide
  · split
    · decide
    · rw [h4]
      simp only [Bool.false_eq_true, if_false]
      rcases h with h | h
      · rw [if_pos h]; decide
      · split
        · decide
        · rw [if_pos (.inl h)]; decide
theorem nTl_same {k : Nat} (hk : k ≠ 3) (st : BS) (tl : List UInt8) (g : Seg) : nTl k st tl g = tl := by unfold nTl; rw [if_neg hk]
theorem nTl_le (k : Nat) (st : BS) (tl : List UInt8) (g : Seg) : tl.length ≤ (nTl k st tl g).length := by unfold nTl; split <;> simp
end Go.Proofs.YtakgohocimlagaaGreat

namespace Go.Proofs.YtakgohocimlagaaGreat
open Go.RowKit
set_option linter.unusedVariables false
set_option linter.unusedSimpArgs false
theorem BytesV.upto {w : World} {A : Option Addr} {n c : Nat} {l : List UInt8} (h : BytesV w (.slice A n c) l) {k : Nat} (hk : k ≤ n) : BytesV w (.slice A k c) (l.take k) := by
  obtain ⟨h1, h2, h3⟩ := h.form
  subst h1
  have hlt : (l.take k).length = k := by rw [List.length_take, Nat.min_eq_left hk]
  refine ⟨A, c, by rw [hlt], by rw [hlt]; omega, by omega, fun hp => ?_⟩
  rw [hlt] at hp
  obtain ⟨g, o, rfl, hc⟩ := h.get (by omega)
  refine ⟨g, o, rfl, fun i x hx => ?_⟩
  rw [List.getElem?_take] at hx
  split at hx
  · exact hc i x hx
  · cases hx
theorem BytesV.fromXe {w : World} {A X : Option Addr} {n c k e : Nat} {l : List UInt8} (h : BytesV w (.slice A n c) l) (hk : k ≤ e) (he : e ≤ n) (hX : (if c = k then A else Option.map (fun x : Addr => x.add k) A) = X) : BytesV w (.slice X (e - k) (c - k)) ((l.drop k).take (e - k)) := by
  have hf := h.form
  by_cases h0 : e = k
  · subst h0
    rw [Nat.sub_self]
    exact BytesV.empty _ (by omega)
  · obtain ⟨g, o, rfl, _⟩ := h.get (by omega)
    rw [if_neg (by omega)] at hX
    exact h.sub hk he X (c - k) (fun _ => by rw [← hX]; simp only [Option.map_some]; congr 1; unfold Addr.add; split <;> simp_all) (by omega) (by omega)
set_option maxRecDepth 100000 in
set_option maxHeartbeats 1000000 in
theorem setup_ok (w : World) : Calls Tryz.prog 7 #[] w fun e w' => e = .returned (setupV 1 2 9 1460 7 true 100 4 3) ∧ Keeps [] w w' := by
  unfold setupV
  go_enter Tryz.func7, Tryz.ntmps7
  go_wp2_with fail
  refine bodyPost_ret (v := .agg #[.int .u16 1, .int .u16 2, .int .u32 9, .int .u16 1460, .int .i64 7, .bool true, .int .i64 100, .int .u64 4, .int .i64 3]) (by simp [results, Tryz.results7, go_sem]) rfl ⟨rfl, ?_⟩
  repeat (first | exact Keeps.refl _ _ | apply Keeps.alloc' | apply Keeps.drew' | (refine Keeps.setCell' ?_ (by simp) _))
/-- x.Bytes() of an end towards a client -/
theorem ebytes_cli {w : World} {B x b mb : Nat} {s : ES} {st : BS} {tl : List UInt8} (h : Cli w B x b mb s st tl) :
    Calls Tryz.prog 15 #[.pointer (some ⟨x, 0, none⟩)] w fun e w' => ∃ A c, e = .returned (.slice A tl.length c) ∧ BytesV w' (.slice A tl.length c) tl ∧ Keeps [] w w' := by
  obtain ⟨A, c, ht⟩ := own_slice h.own
  have hb := BytesV.of_own h.own
  rw [ht] at hb
  have := h.okb.tr
  have := h.okb.r
  have := h.len
  refine (ebytes_any h.e (by have := h.st2; omega) A tl.length c tl ht hb (by omega)).mono ?_
  rintro e w' ⟨v, rfl, hv, k⟩
  obtain ⟨A', c', rfl⟩ := hv.slice
  exact ⟨A', c', rfl, hv, k⟩
theorem BytesV.str {P : Program} {w : World} {A : Option Addr} {n c : Nat} {l : List UInt8} (h : BytesV w (.slice A n c) l) (src dst e : TypeId) (hs : P.underlying src = some (.slice e)) (he : P.underlying e = some (.int .u8)) (hd : P.underlying dst = some .string) (hp : 0 < n) :
    (convert src dst (.slice A n c)).run P w = .ok (.string ⟨l.toArray⟩) w := by
  obtain ⟨g, o, rfl, hc⟩ := h.get hp
  have hn := h.form.1
  subst hn
  refine run_convert_bytes_back w src dst e ⟨g, o, none⟩ c l hs he hd (fun j hj => ?_)
  have e0 : (⟨g, o, none⟩ : Addr).add j = ⟨g, o + j, none⟩ := by unfold Addr.add; split <;> simp_all
  rw [e0]
  exact hc j l[j] (List.getElem?_eq_getElem hj)
/-- string(b), whatever its length. -/
theorem BytesV.str0 {P : Program} {w : World} {A : Option Addr} {n c : Nat} {l : List UInt8} (h : BytesV w (.slice A n c) l) (src dst e : TypeId) (hs : P.underlying src = some (.slice e)) (he : P.underlying e = some (.int .u8)) (hd : P.underlying dst = some .string) :
    (convert src dst (.slice A n c)).run P w = .ok (.string ⟨l.toArray⟩) w := by
  rcases Nat.eq_zero_or_pos n with h0 | h0
  · have hl : l = [] := List.eq_nil_of_length_eq_zero (by have := h.form.1; omega)
    subst hl
    subst h0
    cases A with
    | none =>
      rw [run_convert_bytes_string w src dst e none 0 c hs he hd]
      simp [Conv.bytesToString]
      rfl
    | some a => exact run_convert_bytes_back w src dst e a c [] hs he hd (fun j hj => by simp at hj)
  · exact h.str src dst e hs he hd h0
theorem Cli.lower {w : World} {B B' x b mb : Nat} {s : ES} {st : BS} {tl : List UInt8} (h : Cli w B x b mb s st tl) (hB : B' ≤ B) : Cli w B' x b mb s st tl :=
  ⟨h.e, h.ok, h.st2, h.inp, h.out, h.wri, h.bf, h.okb, ⟨h.own.1, by
    rcases h.own.2 with h0 | ⟨g, cap, cur, e, hb, hg, hr⟩
    · exact .inl h0
    · exact .inr ⟨g, cap, cur, e, Nat.le_trans hB hb, hg, hr⟩⟩, h.sep, h.xb, h.xm, Nat.le_trans hB h.zx, Nat.le_trans hB h.zb, Nat.le_trans hB h.zm, h.len⟩
theorem fl_0 {fl : Int} (h : fl = 16 ∨ fl = 17) : has fl 4 = false ∧ (has fl 1 = true → fl = 17) ∧ 0 ≤ fl ∧ fl ≤ 255 := by rcases h with rfl | rfl <;> decide
theorem fl_1 {fl : Int} (h : fl = 16 ∨ fl = 17) : has (bits .andNot .u8 fl 16) 4 = false ∧ has (bits .andNot .u8 fl 16) 16 = false ∧ (has (bits .andNot .u8 fl 16) 1 = true → fl = 17) ∧ 0 ≤ bits .andNot .u8 fl 16 ∧ bits .andNot .u8 fl 16 ≤ 255 := by rcases h with rfl | rfl <;> decide
theorem fl_3 {fl : Int} (h : fl = 16 ∨ fl = 17) : has (bits .or .u8 fl 2) 4 = false ∧ has (bits .or .u8 fl 2) 2 = true ∧ (has (bits .or .u8 fl 2) 1 = true → fl = 17) ∧ 0 ≤ bits .or .u8 fl 2 ∧ bits .or .u8 fl 2 ≤ 255 := by rcases h with rfl | rfl <;> decide
end Go.Proofs.YtakgohocimlagaaGreat

