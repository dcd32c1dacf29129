/-
  A buffer described by what is found at each place: the plain laws of a Put and a Take, and the contracts in these words. Condition: the buffer's numbers are in the ranges of their kinds.
-/
import Derived.Test.YtknlcieceghaiaaReasmStream
namespace Go.Proofs.Ytknlcieceghaiaa
open Go.RowKit
set_option linter.unusedVariables false
set_option linter.unusedSimpArgs false

/-- at place j of the buffer st lies g j; H bounds the runs beyond the next place -/
structure Desc (st : BS) (first : Int) (T M : Nat) (g : Nat → Option UInt8) (H : Nat) : Prop where
  ok : st.ok
  efirst : st.first = first
  tk : st.taken = T
  eroom : st.room = M
  find : ∀ j : Nat, AL.find (j : Int) st.m = g j
  holes : cntR st.taken (runsOf st.m) ≤ H

theorem Desc.start {first : Int} {M : Nat} (h0 : U32 first) (hM : M ≤ 16384) : Desc ⟨first, 0, M, []⟩ first 0 M (fun _ => none) 0 where
  ok := ⟨h0, Int.le_refl _, by simp, by simp; omega, by simp [AL.keys], by simp [AL.keys]⟩
  efirst := rfl
  tk := rfl
  eroom := rfl
  find := fun j => by simp [AL.find]
  holes := by simp [runsOf, keysS, AL.keys, runFold, runEnd, cntR]

theorem cntF_le {N : Nat} {f g : Nat → Bool} (h : ∀ i, i < N → f i = true → g i = true) : cntF N f ≤ cntF N g := by
  induction N with
  | zero => exact Nat.le_refl _
  | succ N ih =>
    rw [cntF_succ, cntF_succ]
    have h1 := ih (fun i hi => h i (by omega))
    have h2 := h N (by omega)
    cases hf : f N
    · simp; omega
    · simp [h2 hf]; omega
theorem cntF_or_le (N : Nat) (f g : Nat → Bool) : cntF N (fun i => f i || g i) ≤ cntF N f + cntF N g := by
  induction N with
  | zero => exact Nat.le_refl _
  | succ N ih =>
    rw [cntF_succ, cntF_succ, cntF_succ]
    cases f N <;> cases g N <;> simp <;> omega
theorem cntF_one (N p : Nat) : cntF N (fun i => decide (i = p)) ≤ 1 := by
  have key : cntF N (fun i => decide (i = p)) = if p < N then 1 else 0 := by
    induction N with
    | zero => simp [cntF]
    | succ N ih =>
      rw [cntF_succ, ih]
      by_cases h : N = p
      · subst h; simp
      · simp only [h, decide_false]
        by_cases h1 : p < N
        · simp [h1, show p < N + 1 by omega]
        · simp [h1, show ¬ p < N + 1 by omega]
  rw [key]; split <;> omega

theorem Desc.kb {st : BS} {first : Int} {T M H N : Nat} {g : Nat → Option UInt8} (D : Desc st first T M g H) (hN : N = 16384) : ∀ k ∈ AL.keys st.m, 0 ≤ k ∧ k < (N : Int) := fun k hk => by
  have := D.ok.keys k hk
  have := D.ok.t0
  have := D.ok.r
  omega
theorem find_isSome_mem {m : List (Int × UInt8)} {k : Int} (h : (AL.find k m).isSome = true) : k ∈ AL.keys m := by
  by_cases hm : k ∈ AL.keys m
  · exact hm
  · rw [AL.find_none.2 hm] at h; cases h
theorem Desc.in_room {st : BS} {first : Int} {T M H : Nat} {g : Nat → Option UInt8} (D : Desc st first T M g H) {j : Nat} (h : (g j).isSome = true) : T ≤ j ∧ j < M := by
  rw [← D.find j] at h
  have := D.ok.keys _ (find_isSome_mem h)
  have := D.tk
  have := D.eroom
  omega

/-- a Put -/
theorem Desc.putStep {st : BS} {first : Int} {T M H : Nat} {g : Nat → Option UInt8} (D : Desc st first T M g H) (frm : Nat) (data : List UInt8) (hf : frm ≤ 20000) (hd : data.length ≤ 20000)
    (g' : Nat → Option UInt8) (hg' : ∀ j, g' j = match g j with
      | some x => some x
      | none => if max frm T ≤ j ∧ j < min (frm + data.length) M then data[j - frm]? else none) (c : Nat) (hc : cntF M (fun j => decide (max frm T ≤ j) && decide (j < min (frm + data.length) M) && !(g j).isSome) = c) :
    (st.anew (addI first frm) data).length = st.m.length + c ∧ st.holes (addI first frm) data ≤ H + 1 ∧ Desc { st with m := st.anew (addI first frm) data } first T M g' (H + 1) := by
  obtain ⟨S, hS⟩ : ∃ S, S = List.replicate frm (0 : UInt8) ++ data := ⟨_, rfl⟩
  have hSl : S.length = frm + data.length := by rw [hS]; simp
  have hdS : data = (S.drop frm).take (frm + data.length - frm) := by
    rw [hS, List.drop_append_of_le_length (by simp)]
    simp
  have hSj : ∀ j, frm ≤ j → S[j]? = data[j - frm]? := fun j hj => by
    rw [hS, List.getElem?_append_right (by simpa using hj)]
    simp
  have hu : U32 (addI first frm) := addI_bd _ _
  have hok := BS.anew_ok D.ok hu data (by omega)
  have hfind : ∀ j : Nat, AL.find (j : Int) (st.anew (addI first frm) data) = g' j := fun j => by
    have h := put_find D.ok D.efirst D.tk D.eroom (S := S) (by omega) (frm := frm) (tt := frm + data.length) (by omega) (by omega) j
    rw [← hdS] at h
    rw [h, hg' j, D.find j]
    cases g j with
    | some x => rfl
    | none =>
      simp only []
      by_cases hcc : max frm T ≤ j ∧ j < min (frm + data.length) M
      · rw [if_pos hcc, if_pos hcc]
        exact hSj j (by omega)
      · rw [if_neg hcc, if_neg hcc]
  obtain ⟨N, hN⟩ : ∃ N : Nat, N = 16384 := ⟨_, rfl⟩
  have hMN : M ≤ N := by have := D.ok.r; have := D.eroom; omega
  have hkb : ∀ k ∈ AL.keys (st.anew (addI first frm) data), 0 ≤ k ∧ k < (N : Int) := fun k hk => by
    have := BS.anew_keys D.ok hu data (by omega) k hk
    have := D.ok.t0
    have := D.ok.r
    omega
  have hsome : ∀ j : Nat, (g' j).isSome = ((g j).isSome || (decide (max frm T ≤ j) && decide (j < min (frm + data.length) M))) := fun j => by
    rw [hg' j]
    cases g j with
    | some x => simp
    | none =>
      simp only [Option.isSome_none, Bool.false_or]
      by_cases hcc : max frm T ≤ j ∧ j < min (frm + data.length) M
      · rw [if_pos hcc, List.getElem?_eq_getElem (by omega)]
        simp [hcc.1, hcc.2]
      · rw [if_neg hcc]
        rw [eq_comm, Option.isSome_none]
        by_cases hh : max frm T ≤ j
        · have : ¬ j < min (frm + data.length) M := fun h => hcc ⟨hh, h⟩
          simp [this]
        · simp [hh]
  have hholes : cntR (T : Int) (runsOf (st.anew (addI first frm) data)) ≤ H + 1 := by
    have h0 := D.holes
    rw [D.tk, cntR_cnt D.ok.nd (D.kb hN) T] at h0
    rw [cntR_cnt hok.nd hkb T]
    refine Nat.le_trans (cntF_le (g := fun i => (decide (T < i) && (AL.find (i : Int) st.m).isSome && !(AL.find ((i : Int) - 1) st.m).isSome) || decide (i = max frm T)) ?_) (Nat.le_trans (cntF_or_le _ _ _) (Nat.add_le_add h0 (cntF_one _ _)))
    intro i _ h
    simp only [Bool.and_eq_true, decide_eq_true_eq, Bool.not_eq_true'] at h
    obtain ⟨⟨h1, h2⟩, h3⟩ := h
    have e1 : (i : Int) - 1 = ((i - 1 : Nat) : Int) := by omega
    rw [e1] at h3 ⊢
    rw [hfind, hsome] at h2 h3
    rw [D.find, D.find]
    rw [Bool.or_eq_false_iff] at h3
    rw [h3.1]
    simp only [h1, decide_true, Bool.true_and, Bool.not_false, Bool.and_true]
    cases hgi : (g i).isSome with
    | true => rfl
    | false =>
      rw [hgi] at h2
      simp only [Bool.false_or, Bool.and_eq_true, decide_eq_true_eq] at h2
      have h4 := h3.2
      have : ¬ (max frm T ≤ i - 1) := by
        intro h5
        have h6 : i - 1 < min (frm + data.length) M := by omega
        simp [h5, h6] at h4
      simp only [Bool.false_or, decide_eq_true_eq]
      omega
  refine ⟨?_, ?_, hok, D.efirst, D.tk, D.eroom, hfind, by show cntR st.taken _ ≤ _; rw [D.tk]; exact hholes⟩
  · rw [len_cnt hok.nd hkb, len_cnt D.ok.nd (D.kb hN), ← hc]
    have e1 : cntF N (fun i => (AL.find (i : Int) (st.anew (addI first frm) data)).isSome) = cntF N (fun i => (AL.find (i : Int) st.m).isSome || (decide (max frm T ≤ i) && decide (i < min (frm + data.length) M) && !(g i).isSome)) := cntF_congr fun i _ => by
      rw [hfind i, hsome i, D.find i]
      cases (g i).isSome <;> simp
    show cntF N (fun i => (AL.find (i : Int) (st.anew (addI first frm) data)).isSome) = _
    rw [e1, cntF_or]
    · congr 1
      refine cntF_cut hMN fun i h1 h2 => ?_
      have : ¬ i < min (frm + data.length) M := by omega
      simp [this]
    · intro i _ h
      rw [D.find] at h
      rw [h]; simp
  · unfold BS.holes; rw [D.tk]; exact hholes

/-- a Take: up to the first place R that has none -/
theorem Desc.takeStep {st : BS} {first : Int} {T M H : Nat} {g : Nat → Option UInt8} (D : Desc st first T M g H) {R : Nat} (hR : T ≤ R) (h1 : ∀ j, T ≤ j → j < R → (g j).isSome = true) (h2 : g R = none) :
    st.ready = R - T ∧ st.out.length = R - T ∧ (∀ i, i < R - T → st.out[i]? = g (T + i)) ∧ Desc st.take first R M (fun j => if j < R then none else g j) H := by
  have hr := st.ready_in
  have he := BS.ready_end D.ok
  have hnd := D.ok.nd
  have hrd : st.ready = R - T := by
    have e0 : ∀ i : Nat, (st.taken + (i : Int)) = ((T + i : Nat) : Int) := fun i => by rw [D.tk]; omega
    rw [e0, D.find] at he
    rcases Nat.lt_trichotomy st.ready (R - T) with h | h | h
    · have := h1 (T + st.ready) (by omega) (by omega)
      rw [he] at this; cases this
    · exact h
    · obtain ⟨x, hx⟩ := hr (R - T) h
      rw [e0, D.find, show T + (R - T) = R by omega, h2] at hx; cases hx
  have hfd : ∀ j : Int, AL.find j st.take.m = if st.taken ≤ j ∧ j < st.taken + st.ready then none else AL.find j st.m := fun j => delN_find hnd _ j _
  have htk : st.take.taken = (R : Int) := by show st.taken + (st.ready : Int) = _; rw [D.tk, hrd]; omega
  have hlen : st.out.length = R - T := by rw [← hrd]; exact bytesN_len _ _ _
  have hfind : ∀ j : Nat, AL.find (j : Int) st.take.m = if j < R then none else g j := fun j => by
    rw [hfd, D.tk, hrd, D.find]
    by_cases hj : j < R
    · rw [if_pos hj]
      by_cases hj2 : T ≤ j
      · rw [if_pos (by omega)]
      · rw [if_neg (by omega)]
        cases hg : g j with
        | none => rfl
        | some x =>
          have := D.in_room (j := j) (by rw [hg]; rfl)
          omega
    · rw [if_neg hj, if_neg (by omega)]
  refine ⟨hrd, hlen, fun i hi => ?_, BS.take_ok D.ok, D.efirst, htk, D.eroom, hfind, ?_⟩
  · unfold BS.out bytesN
    rw [List.getElem?_map, List.getElem?_range (by rw [hrd]; exact hi)]
    simp only [Option.map_some]
    obtain ⟨x, hx⟩ := hr i (by omega)
    rw [hx]
    rw [show st.taken + (i : Int) = ((T + i : Nat) : Int) by rw [D.tk]; omega, D.find] at hx
    rw [hx]; rfl
  · obtain ⟨N, hN⟩ : ∃ N : Nat, N = 16384 := ⟨_, rfl⟩
    have kb2 : ∀ k ∈ AL.keys st.take.m, 0 ≤ k ∧ k < (N : Int) := fun k hk => D.kb hN k (delN_keys hnd _ _ hk).1
    rw [htk, cntR_cnt (BS.take_ok D.ok).nd kb2 R]
    have h0 := D.holes
    rw [D.tk, cntR_cnt hnd (D.kb hN) T] at h0
    refine Nat.le_trans (cntF_le fun i _ h => ?_) h0
    simp only [Bool.and_eq_true, decide_eq_true_eq, Bool.not_eq_true'] at h ⊢
    obtain ⟨⟨h3, h4⟩, h5⟩ := h
    have e1 : (i : Int) - 1 = ((i - 1 : Nat) : Int) := by omega
    rw [e1] at h5 ⊢
    rw [hfind, if_neg (by omega)] at h4
    rw [hfind, if_neg (by omega)] at h5
    rw [D.find, D.find]
    exact ⟨⟨by omega, h4⟩, h5⟩

/-! ### in memory -/
def DB (w : World) (b mb : Nat) (first : Int) (T M : Nat) (g : Nat → Option UInt8) (H : Nat) : Prop := ∃ st, BuffAt w b mb st ∧ Desc st first T M g H
theorem DB.keep {w w' : World} {b mb : Nat} {first : Int} {T M H : Nat} {g : Nat → Option UInt8} {S : List Nat} (h : DB w b mb first T M g H) (k : Keeps S w w') (h1 : b ∉ S) (h2 : mb ∉ S) : DB w' b mb first T M g H := by
  obtain ⟨st, hb, hd⟩ := h
  exact ⟨st, hb.keep k h1 h2, hd⟩
theorem DB.keep0 {w w' : World} {b mb : Nat} {first : Int} {T M H : Nat} {g : Nat → Option UInt8} (h : DB w b mb first T M g H) (k : Keeps [] w w') : DB w' b mb first T M g H := h.keep k (by simp) (by simp)
theorem DB.lt {w : World} {b mb : Nat} {first : Int} {T M H : Nat} {g : Nat → Option UInt8} (h : DB w b mb first T M g H) : b < w.heap.size ∧ mb < w.heap.size ∧ b ≠ mb := by
  obtain ⟨st, hb, hd⟩ := h
  exact ⟨lt_of_block hb.head, hb.map.lt, hb.ne⟩
theorem dnew (w : World) (first : Int) (h0 : U32 first) (M : Nat) (m : Int) (hm : m = M) (hM : M ≤ 16384) :
    Calls Try.prog 8 #[.int .u32 first, .int .i64 m] w fun e w' => ∃ b mb, e = .returned (.tuple #[.pointer (some ⟨b, 0, none⟩), .int .i64 0]) ∧ DB w' b mb first 0 M (fun _ => none) 0 ∧ Keeps [] w w' ∧ w.heap.size ≤ b ∧ w.heap.size ≤ mb := by
  subst hm
  refine (bnew_ok w first M (by omega) (by omega)).mono ?_
  rintro e w1 ⟨b, mb, rfl, hb1, k1, hbs, hms⟩
  exact ⟨b, mb, rfl, ⟨_, hb1, Desc.start h0 hM⟩, k1, hbs, hms⟩
theorem dput {w : World} {b mb : Nat} {first : Int} {T M H : Nat} {g : Nat → Option UInt8} (h : DB w b mb first T M g H) (hH : H ≤ 15) (frm : Nat) (a : Int) (ha : a = addI first frm) (A : Option Addr) (n c : Nat) (data : List UInt8) (hv : BytesV w (.slice A n c) data) (hf : frm ≤ 20000) (hd : data.length ≤ 20000)
    (g' : Nat → Option UInt8) (hg' : ∀ j, g' j = (g j).or (if max frm T ≤ j ∧ j < min (frm + data.length) M then data[j - frm]? else none)) (cc : Nat) (hc : cntF M (fun j => decide (max frm T ≤ j) && decide (j < min (frm + data.length) M) && !(g j).isSome) = cc) :
    Calls Try.prog 9 #[.pointer (some ⟨b, 0, none⟩), .int .u32 a, .slice A n c] w fun e w' => e = .returned (.tuple #[.int .i64 cc, .int .i64 0]) ∧ Keeps [b] w w' ∧ ∃ mb', DB w' b mb' first T M g' (H + 1) ∧ w.heap.size ≤ mb' := by
  obtain ⟨st, hb, D⟩ := h
  subst ha
  obtain ⟨d1, d2, d3⟩ := D.putStep frm data hf hd g' (fun j => by rw [hg' j]; cases g j <;> rfl) cc hc
  have hn := hv.form.1
  refine (bput_any hb D.ok _ (addI_bd _ _) A n c data hv (by omega)).mono ?_
  rintro e w5 (⟨hh, rfl, k5⟩ | ⟨hh, rfl, k5, mb5, hb5, hz5⟩)
  · omega
  · refine ⟨?_, k5, mb5, ⟨_, hb5, d3⟩, hz5⟩
    have : ((st.anew (addI first frm) data).length : Int) - st.m.length = cc := by omega
    rw [this]
theorem dready {w : World} {b mb : Nat} {first : Int} {T M H : Nat} {g : Nat → Option UInt8} (h : DB w b mb first T M g H) {R : Nat} (hR : T ≤ R) (h1 : ∀ j, T ≤ j → j < R → (g j).isSome = true) (h2 : g R = none) (r : Nat) (hr : r = R - T) :
    Calls Try.prog 14 #[.pointer (some ⟨b, 0, none⟩)] w fun e w' => e = .returned (.int .i64 r) ∧ Keeps [] w w' := by
  obtain ⟨st, hb, D⟩ := h
  have e := (D.takeStep hR h1 h2).1
  refine (bready_any hb D.ok).mono ?_
  rintro _ w' ⟨rfl, d, rfl⟩
  exact ⟨by rw [e, hr], Keeps.drewN _ _ _⟩
theorem dnext {w : World} {b mb : Nat} {first : Int} {T M H : Nat} {g : Nat → Option UInt8} (h : DB w b mb first T M g H) :
    Calls Try.prog 11 #[.pointer (some ⟨b, 0, none⟩)] w fun e w' => e = .returned (.int .u32 (addI first T)) ∧ w = w' := by
  obtain ⟨st, hb, D⟩ := h
  refine (bnext_any hb D.ok).mono ?_
  rintro _ w' ⟨rfl, rfl⟩
  exact ⟨by unfold BS.next; rw [D.efirst, D.tk], rfl⟩
theorem droom {w : World} {b mb : Nat} {first : Int} {T M H : Nat} {g : Nat → Option UInt8} (h : DB w b mb first T M g H) :
    Calls Try.prog 12 #[.pointer (some ⟨b, 0, none⟩)] w fun e w' => e = .returned (.int .i64 ((M : Int) - T)) ∧ Keeps [] w w' := by
  obtain ⟨st, hb, D⟩ := h
  refine (broom_any hb D.ok).mono ?_
  rintro _ w' ⟨rfl, d, rfl⟩
  exact ⟨by rw [D.eroom, D.tk], Keeps.drewN _ _ _⟩
theorem dcopy {w : World} {b mb : Nat} {first : Int} {T M H : Nat} {g : Nat → Option UInt8} (h : DB w b mb first T M g H) :
    Calls Try.prog 19 #[.pointer (some ⟨b, 0, none⟩)] w fun e w' => ∃ b' mb', e = .returned (.pointer (some ⟨b', 0, none⟩)) ∧ DB w' b' mb' first T M g H ∧ Keeps [] w w' ∧ w.heap.size ≤ b' ∧ w.heap.size ≤ mb' := by
  obtain ⟨st, hb, D⟩ := h
  refine (bcopy_any hb).mono ?_
  rintro _ w' ⟨b', mb', rfl, hb', k, h1, h2⟩
  exact ⟨b', mb', rfl, ⟨st, hb', D⟩, k, h1, h2⟩
theorem dtake {w : World} {b mb : Nat} {first : Int} {T M H : Nat} {g : Nat → Option UInt8} (h : DB w b mb first T M g H) {R : Nat} (hR : T ≤ R) (h1 : ∀ j, T ≤ j → j < R → (g j).isSome = true) (h2 : g R = none) (l : List UInt8) (hl : l.length = R - T) (hl2 : ∀ i, i < R - T → l[i]? = g (T + i)) :
    Calls Try.prog 10 #[.pointer (some ⟨b, 0, none⟩)] w fun e w' => ∃ A c, e = .returned (.slice A l.length c) ∧ BytesV w' (.slice A l.length c) l ∧ (∀ g o, A = some ⟨g, o, none⟩ → w.heap.size ≤ g) ∧ DB w' b mb first R M (fun j => if j < R then none else g j) H ∧ Keeps [b, mb] w w' := by
  obtain ⟨st, hb, D⟩ := h
  obtain ⟨e1, e2, e3, e4⟩ := D.takeStep hR h1 h2
  have hol : st.out = l := by
    apply List.ext_getElem?
    intro i
    by_cases hi : i < R - T
    · rw [e3 i hi, hl2 i hi]
    · rw [List.getElem?_eq_none (by omega), List.getElem?_eq_none (by omega)]
  refine (btake_any hb D.ok).mono ?_
  rintro _ w' ⟨v, rfl, hy, hb', k⟩
  rw [hol] at hy
  obtain ⟨A, c, rfl⟩ := own_slice hy
  refine ⟨A, c, rfl, BytesV.of_own hy, fun g o e => ?_, ⟨_, hb', e4⟩, k⟩
  subst e
  exact (hy.lt g rfl).1

/-- the longest part from 0 on that a function of places gives is one list -/
theorem pre_unique {h : Nat → Option UInt8} {l1 l2 : List UInt8} (a1 : ∀ i, i < l1.length → h i = l1[i]?) (b1 : h l1.length = none) (a2 : ∀ i, i < l2.length → h i = l2[i]?) (b2 : h l2.length = none) : l1 = l2 := by
  have hlen : l1.length = l2.length := by
    rcases Nat.lt_trichotomy l1.length l2.length with h1 | h1 | h1
    · have := a2 _ h1; rw [b1, List.getElem?_eq_getElem h1] at this; cases this
    · exact h1
    · have := a1 _ h1; rw [b2, List.getElem?_eq_getElem h1] at this; cases this
  apply List.ext_getElem?
  intro i
  by_cases hi : i < l1.length
  · rw [← a1 i hi, ← a2 i (by omega)]
  · rw [List.getElem?_eq_none (by omega), List.getElem?_eq_none (by omega)]
end Go.Proofs.Ytknlcieceghaiaa
