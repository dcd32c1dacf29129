/-
  The plain law of package reasm against the document's row of places: which runs are held, what Put lays and how many bytes are new. No condition but the buffer's own (BS.ok).
-/
import Derived.Test.YtknlcieceghaiaaReasmN
import Derived.Test.YtknlcieceghaiaaReasmH
namespace Go.Proofs.Ytknlcieceghaiaa
open Go.RowKit
set_option linter.unusedVariables false
set_option linter.unusedSimpArgs false

/-! ### runs and their ends -/
/-- a run's own: it lies in l, and ends where l has no more -/
def RunQ (l : List Int) (p : Int × Int) : Prop := p.1 < p.2 ∧ (∀ x, p.1 ≤ x → x < p.2 → x ∈ l) ∧ p.2 ∉ l
theorem runs_ends0 : ∀ (n : Nat) (l : List Int), l.length = n → l.Pairwise (· < ·) → (∀ k ∈ l, 0 ≤ k) →
    (l = [] ∧ runFold l = (-1, -1, [])) ∨ (∃ p z, l = p ++ [z] ∧ (runFold l).2.1 = z ∧ 0 ≤ (runFold l).1 ∧ (runFold l).1 ≤ z ∧ (∀ x, (runFold l).1 ≤ x → x ≤ z → x ∈ l) ∧ ∀ r ∈ (runFold l).2.2, RunQ l r ∧ r.2 ≤ z)
  | 0, l, hl, _, _ => .inl ⟨List.eq_nil_of_length_eq_zero hl, by rw [List.eq_nil_of_length_eq_zero hl]; rfl⟩
  | n + 1, l, hl, hp, h0 => by
    right
    have hne : l ≠ [] := by intro e; rw [e] at hl; simp at hl
    obtain ⟨q, k, rfl⟩ : ∃ q k, l = q ++ [k] := ⟨l.dropLast, l.getLast hne, (List.dropLast_concat_getLast hne).symm⟩
    have hpq := (List.pairwise_append.1 hp).1
    have hlt : ∀ x ∈ q, x < k := fun x hx => (List.pairwise_append.1 hp).2.2 x hx k (by simp)
    have hk0 := h0 k (by simp)
    have hst : runFold (q ++ [k]) = runStep (runFold q) k := by simp [runFold]
    refine ⟨q, k, rfl, ?_⟩
    rcases runs_ends0 n q (by simp at hl; omega) hpq (fun x hx => h0 x (by simp [hx])) with ⟨rfl, hr⟩ | ⟨p, z, rfl, h1, h2, h3, h4, h5⟩
    · rw [hst, hr]
      unfold runStep
      simp only
      rw [if_neg (by omega), if_pos (by omega)]
      refine ⟨rfl, hk0, Int.le_refl _, fun x h1 h2 => ?_, by simp⟩
      simp only at h1
      simp; omega
    · rw [hst]
      generalize runFold (p ++ [z]) = st at *
      obtain ⟨f, l, d⟩ := st
      simp only at h1 h2 h3 h4 h5
      subst h1
      have hz := hlt l (by simp)
      have hmax : ∀ x ∈ p ++ [l], x ≤ l := fun x hx => by
        rcases List.mem_append.1 hx with h | h
        · exact Int.le_of_lt ((List.pairwise_append.1 hpq).2.2 x h l (by simp))
        · rw [List.mem_singleton.1 h]; exact Int.le_refl _
      have hold : ∀ r ∈ d, RunQ (p ++ [l] ++ [k]) r ∧ r.2 ≤ k := fun r hr => by
        obtain ⟨⟨a1, a2, a3⟩, a4⟩ := h5 r hr
        refine ⟨⟨a1, fun x b1 b2 => List.mem_append_left _ (a2 x b1 b2), fun hm => ?_⟩, by omega⟩
        rcases List.mem_append.1 hm with h | h
        · exact a3 h
        · have := List.mem_singleton.1 h; omega
      by_cases hkl : k = l + 1
      · unfold runStep
        simp only
        rw [if_neg (by omega), if_neg (by omega)]
        refine ⟨rfl, h2, by simp only; omega, fun x b1 b2 => ?_, hold⟩
        simp only at b1
        by_cases hx : x ≤ l
        · exact List.mem_append_left _ (h4 x b1 hx)
        · have : x = k := by omega
          simp [this]
      · unfold runStep
        simp only
        rw [if_pos ⟨h2, hkl⟩]
        refine ⟨rfl, hk0, Int.le_refl _, fun x b1 b2 => ?_, fun r hr => ?_⟩
        · simp only at b1
          have : x = k := by omega
          simp [this]
        · rcases List.mem_append.1 hr with h | h
          · exact hold r h
          · rw [List.mem_singleton.1 h]
            refine ⟨⟨by simp only; omega, fun x b1 b2 => List.mem_append_left _ (h4 x b1 (by simp only at b2; omega)), fun hm => ?_⟩, by simp only; omega⟩
            rcases List.mem_append.1 hm with h | h
            · have := hmax _ h; simp only at this; omega
            · have := List.mem_singleton.1 h; simp only at this; omega
theorem runs_ends {m : List (Int × UInt8)} (hn : (AL.keys m).Nodup) (hk : ∀ k ∈ AL.keys m, 0 ≤ k) : ∀ p ∈ runsOf m, RunQ (AL.keys m) p := by
  have hmem : ∀ x, x ∈ keysS m ↔ x ∈ AL.keys m := fun x => (keysS_perm m).mem_iff
  have conv : ∀ p, RunQ (keysS m) p → RunQ (AL.keys m) p := fun p ⟨a1, a2, a3⟩ => ⟨a1, fun x b1 b2 => (hmem x).1 (a2 x b1 b2), fun h => a3 ((hmem _).2 h)⟩
  intro p hp
  refine conv p ?_
  unfold runsOf at hp
  rcases runs_ends0 _ (keysS m) rfl (keysS_sorted hn) (fun x hx => hk x ((hmem x).1 hx)) with ⟨h1, h2⟩ | ⟨q, z, hq, h1, h2, h3, h4, h5⟩
  · rw [h2] at hp
    unfold runEnd at hp
    simp at hp
  · have hs := keysS_sorted hn
    rw [hq] at hs h4 h5 h1 h2 h3 hp ⊢
    generalize runFold (q ++ [z]) = st at *
    obtain ⟨f, l, d⟩ := st
    simp only at h1 h2 h3 h4 h5
    subst h1
    unfold runEnd at hp
    rw [if_pos h2] at hp
    rcases List.mem_append.1 hp with h | h
    · exact (h5 p h).1
    · rw [List.mem_singleton.1 h]
      refine ⟨by simp only; omega, fun x b1 b2 => h4 x b1 (by simp only at b2; omega), fun hm => ?_⟩
      simp only at hm
      rcases List.mem_append.1 hm with h | h
      · have := (List.pairwise_append.1 hs).2.2 _ h l (by simp)
        omega
      · have := List.mem_singleton.1 h; omega
theorem pairs_eq {Q : Int × Int → Prop} (hQ : ∀ a b c, Q (a, b) → Q (a, c) → b = c) : ∀ (l1 l2 : List (Int × Int)), l1.map (·.1) = l2.map (·.1) → (∀ p ∈ l1, Q p) → (∀ p ∈ l2, Q p) → l1 = l2
  | [], [], _, _, _ => rfl
  | [], _ :: _, h, _, _ => by simp at h
  | _ :: _, [], h, _, _ => by simp at h
  | (a, b) :: l1, (a', c) :: l2, h, h1, h2 => by
    simp only [List.map_cons, List.cons.injEq] at h
    obtain ⟨rfl, h⟩ := h
    rw [hQ a b c (h1 _ (by simp)) (h2 _ (by simp)), pairs_eq hQ l1 l2 h (fun p hp => h1 p (by simp [hp])) (fun p hp => h2 p (by simp [hp]))]
theorem sorted_eq : ∀ {a b : List Int}, a.Pairwise (· < ·) → b.Pairwise (· < ·) → (∀ x, x ∈ a ↔ x ∈ b) → a = b
  | [], [], _, _, _ => rfl
  | [], y :: b, _, _, h => by have := (h y).2 (by simp); simp at this
  | x :: a, [], _, _, h => by have := (h x).1 (by simp); simp at this
  | x :: a, y :: b, ha, hb, h => by
    rw [List.pairwise_cons] at ha hb
    have hxy : x = y := by
      rcases List.mem_cons.1 ((h x).1 (by simp)) with e | e
      · exact e
      · rcases List.mem_cons.1 ((h y).2 (by simp)) with e2 | e2
        · exact e2.symm
        · have := hb.1 x e; have := ha.1 y e2; omega
    subst hxy
    rw [sorted_eq ha.2 hb.2 fun z => ?_]
    constructor
    · intro hz
      rcases List.mem_cons.1 ((h z).1 (by simp [hz])) with e | e
      · have := ha.1 z hz; omega
      · exact e
    · intro hz
      rcases List.mem_cons.1 ((h z).2 (by simp [hz])) with e | e
      · have := hb.1 z hz; omega
      · exact e

/-! ### the document's held -/
/-- where a run of g ends that has come to k, in at most f steps -/
def endF (g : Nat → Bool) : Nat → Nat → Nat
  | 0, k => k
  | f + 1, k => if g k = true then endF g f (k + 1) else k
theorem endF_eq (g : Nat → Bool) : ∀ (f j k : Nat), j ≤ k → k ≤ j + f → (∀ x, j ≤ x → x < k → g x = true) → (k = j + f ∨ g k = false) → endF g f j = k
  | 0, j, k, h1, h2, _, _ => by unfold endF; omega
  | f + 1, j, k, h1, h2, h3, h4 => by
    unfold endF
    by_cases hjk : j = k
    · subst hjk
      have : g j = false := by
        rcases h4 with h4 | h4
        · omega
        · exact h4
      rw [this]; simp
    · rw [if_pos (h3 j (Nat.le_refl _) (by omega))]
      exact endF_eq g f (j + 1) k (by omega) (by omega) (fun x a b => h3 x (by omega) b) (by rcases h4 with h4 | h4; exact .inl (by omega); exact .inr h4)
theorem endF_spec (g : Nat → Bool) : ∀ (f j : Nat), j ≤ endF g f j ∧ endF g f j ≤ j + f ∧ (∀ x, j ≤ x → x < endF g f j → g x = true) ∧ (endF g f j = j + f ∨ g (endF g f j) = false)
  | 0, j => ⟨Nat.le_refl _, Nat.le_refl _, fun x a b => by unfold endF at b; omega, .inl rfl⟩
  | f + 1, j => by
    unfold endF
    by_cases h : g j = true
    · rw [if_pos h]
      obtain ⟨a1, a2, a3, a4⟩ := endF_spec g f (j + 1)
      refine ⟨by omega, by omega, fun x b1 b2 => ?_, ?_⟩
      · by_cases hx : x = j
        · rw [hx]; exact h
        · exact a3 x (by omega) b2
      · rcases a4 with a4 | a4
        · exact .inl (by omega)
        · exact .inr a4
    · rw [if_neg h]
      exact ⟨Nat.le_refl _, by omega, fun x a b => by omega, .inr (by simpa using h)⟩
def startG (g : Nat → Bool) (j : Nat) : Bool := decide (1 ≤ j) && (g j && !g (j - 1))
/-- the runs of g beyond the first place that begin ahead of i -/
def heldD (g : Nat → Bool) (len i : Nat) : List (Nat × Nat) := ((List.range i).filter (startG g)).map fun j => (j, endF g (len - j) j)
theorem heldD_succ (g : Nat → Bool) (len i : Nat) : heldD g len (i + 1) = if startG g i = true then heldD g len i ++ [(i, endF g (len - i) i)] else heldD g len i := by
  unfold heldD
  rw [List.range_succ, List.filter_append, List.map_append]
  by_cases h : startG g i = true
  · rw [if_pos h]; simp [h]
  · rw [if_neg h]; simp [h]
theorem heldD_congr {g g' : Nat → Bool} {len : Nat} (h : ∀ j, j < len → g j = g' j) : ∀ i, i ≤ len → heldD g len i = heldD g' len i := by
  intro i hi
  unfold heldD
  have h1 : (List.range i).filter (startG g) = (List.range i).filter (startG g') := List.filter_congr fun j hj => by
    have hj' := List.mem_range.1 hj
    unfold startG
    rw [h j (by omega), h (j - 1) (by omega)]
  rw [h1]
  refine List.map_congr_left fun j hj => ?_
  have hj' := List.mem_range.1 (List.mem_filter.1 hj).1
  congr 1
  obtain ⟨a1, a2, a3, a4⟩ := endF_spec g' (len - j) j
  refine endF_eq g (len - j) j _ a1 a2 (fun x b1 b2 => ?_) ?_
  · rw [h x (by omega)]; exact a3 x b1 b2
  · rcases a4 with a4 | a4
    · exact .inl a4
    · by_cases he : endF g' (len - j) j = j + (len - j)
      · exact .inl he
      · exact .inr (by rw [h _ (by omega)]; exact a4)

/-! ### the buffer as a row of places -/
def BS.len (s : BS) : Nat := (s.room - s.taken).toNat
def BS.g (s : BS) (j : Nat) : Bool := (AL.find (s.taken + j) s.m).isSome
theorem find_isS {m : List (Int × UInt8)} {k : Int} (h : (AL.find k m).isSome = true) : k ∈ AL.keys m := by
  by_cases hm : k ∈ AL.keys m
  · exact hm
  · rw [AL.find_none.2 hm] at h; cases h
theorem find_mem {m : List (Int × UInt8)} {k : Int} : (AL.find k m).isSome = true ↔ k ∈ AL.keys m := by
  constructor
  · exact find_isS
  · intro h
    cases hf : AL.find k m with
    | some x => rfl
    | none => exact absurd h (AL.find_none.1 hf)
theorem BS.g_mem {s : BS} (j : Nat) : s.g j = true ↔ s.taken + j ∈ AL.keys s.m := find_mem
theorem held_starts {s : BS} (ok : s.ok) : ((runsOf s.m).filter fun r => decide (s.taken < r.1)) = (heldD s.g s.len s.len).map fun p => (s.taken + (p.1 : Int), s.taken + (p.2 : Int)) := by
  have t0 := ok.t0
  have tr := ok.tr
  have hkk : ∀ k ∈ AL.keys s.m, 0 ≤ k := fun k hk => by have := ok.keys k hk; omega
  have hlen : (s.len : Int) = s.room - s.taken := by unfold BS.len; omega
  refine pairs_eq (Q := RunQ (AL.keys s.m)) (fun a b c h1 h2 => ?_) _ _ ?_ (fun p hp => runs_ends ok.nd hkk p (List.mem_filter.1 hp).1) (fun p hp => ?_)
  · obtain ⟨a1, a2, a3⟩ := h1
    obtain ⟨b1, b2, b3⟩ := h2
    simp only at a1 a2 a3 b1 b2 b3
    rcases Int.lt_trichotomy b c with h | h | h
    · exact absurd (b2 b (by omega) h) a3
    · exact h
    · exact absurd (a2 c (by omega) h) b3
  · have e1 : ((runsOf s.m).filter fun r => decide (s.taken < r.1)).map (·.1) = ((runsOf s.m).map (·.1)).filter fun x => decide (s.taken < x) := by
      rw [List.filter_map]; rfl
    rw [e1, runs_starts ok.nd hkk]
    unfold heldD
    rw [List.map_map, List.map_map]
    refine sorted_eq (((keysS_sorted ok.nd).filter _).filter _) ?_ fun x => ?_
    · refine List.pairwise_map.2 ?_
      refine ((List.pairwise_lt_range (n := s.len)).filter _).imp fun {a b} h => ?_
      simp only [Function.comp]
      omega
    · have hmem : x ∈ keysS s.m ↔ x ∈ AL.keys s.m := (keysS_perm s.m).mem_iff
      simp only [List.mem_filter, decide_eq_true_eq, hmem, List.mem_map, List.mem_range, Function.comp, startG, Bool.and_eq_true, Bool.not_eq_true', BS.g_mem]
      constructor
      · rintro ⟨⟨h1, h2⟩, h3⟩
        have hk := ok.keys x h1
        refine ⟨(x - s.taken).toNat, ⟨by omega, by omega, ?_, ?_⟩, by omega⟩
        · rw [show s.taken + ((x - s.taken).toNat : Int) = x by omega]; exact h1
        · cases hg : s.g ((x - s.taken).toNat - 1) with
          | false => rfl
          | true =>
            have := (BS.g_mem _).1 hg
            rw [show s.taken + (((x - s.taken).toNat - 1 : Nat) : Int) = x - 1 by omega] at this
            exact absurd this h2
      · rintro ⟨j, ⟨h1, h2, h3, h4⟩, rfl⟩
        refine ⟨⟨h3, fun hm => ?_⟩, by omega⟩
        rw [show s.taken + (j : Int) - 1 = s.taken + ((j - 1 : Nat) : Int) by omega] at hm
        rw [(BS.g_mem _).2 hm] at h4
        cases h4
  · obtain ⟨q, hq, rfl⟩ := List.mem_map.1 hp
    unfold heldD at hq
    obtain ⟨j, hj, rfl⟩ := List.mem_map.1 hq
    obtain ⟨hj1, hj2⟩ := List.mem_filter.1 hj
    have hjl := List.mem_range.1 hj1
    simp only [startG, Bool.and_eq_true, decide_eq_true_eq, Bool.not_eq_true'] at hj2
    obtain ⟨a1, a2, a3, a4⟩ := endF_spec s.g (s.len - j) j
    have hne : j ≠ endF s.g (s.len - j) j := by
      intro he
      rw [← he] at a4
      rcases a4 with a4 | a4
      · omega
      · rw [hj2.2.1] at a4; cases a4
    refine ⟨by simp only; omega, fun x b1 b2 => ?_, fun hm => ?_⟩
    · simp only at b1 b2
      have h := (BS.g_mem (s := s) (x - s.taken).toNat).1 (a3 _ (by omega) (by omega))
      rw [show s.taken + ((x - s.taken).toNat : Int) = x by omega] at h
      exact h
    · simp only at hm
      rcases a4 with a4 | a4
      · have := ok.keys _ hm
        omega
      · rw [(BS.g_mem _).2 hm] at a4; cases a4
theorem addI_two (f x y : Int) : addI (addI f x) y = addI f (x + y) := by unfold addI; omega
/-- what is held is what the document's row of places holds -/
theorem held_eq {s : BS} (ok : s.ok) : s.held = (heldD s.g s.len s.len).map fun p => (addI s.next p.1, addI s.next p.2) := by
  unfold BS.held heldR
  rw [held_starts ok, List.map_map]
  refine List.map_congr_left fun p _ => ?_
  simp only [Function.comp, BS.next, addI_two]
theorem holes_eq {s : BS} (ok : s.ok) : cntR s.taken (runsOf s.m) = (heldD s.g s.len s.len).length := by
  rw [← heldR_len, show heldR s (runsOf s.m) = s.held from rfl, held_eq ok, List.length_map]

/-! ### how many -/
theorem cntF_add (a b : Nat) (f : Nat → Bool) : cntF (a + b) f = cntF a f + cntF b (fun i => f (a + i)) := by
  induction b with
  | zero => simp [cntF]
  | succ b ih => rw [← Nat.add_assoc, cntF_succ, ih, cntF_succ]; omega
theorem len_win {s : BS} (ok : s.ok) : s.m.length = cntF s.len s.g := by
  have t0 := ok.t0
  have tr := ok.tr
  obtain ⟨T, hT⟩ : ∃ T : Nat, s.taken = T := ⟨s.taken.toNat, by omega⟩
  have hl := len_cnt ok.nd (N := T + s.len) (fun k hk => by have := ok.keys k hk; unfold BS.len; omega)
  rw [cntF_add, cntF_false, Nat.zero_add] at hl
  · rw [hl]
    refine cntF_congr fun i _ => ?_
    unfold BS.g
    rw [hT]
    push_cast
    rfl
  · intro i hi
    cases hf : (AL.find (i : Int) s.m).isSome with
    | false => rfl
    | true => have := ok.keys _ (find_isS hf); omega

/-! ### Put, at any number -/
theorem BS.put_get {s : BS} (ok : s.ok) {a : Int} (ha : U32 a) (data : List UInt8) (hd : data.length ≤ 1048576) (j : Nat) (hj : j < s.len) :
    AL.find (s.taken + j) (s.anew a data) = match AL.find (s.taken + j) s.m with
      | some x => some x
      | none => if aheadI s.next a ≤ j then data[((j : Int) - aheadI s.next a).toNat]? else none := by
  unfold BS.anew
  rw [insL_find]
  cases hf : AL.find (s.taken + j) s.m with
  | some x => rfl
  | none =>
    simp only []
    have hn := s.next_bd
    have t0 := ok.t0
    have tr := ok.tr
    have r := ok.r
    have hjl : (j : Int) < s.room - s.taken := by unfold BS.len at hj; omega
    obtain ⟨a0, a1⟩ := ha
    obtain ⟨n0, n1⟩ := hn
    unfold BS.place BS.cut cutI
    have hz : aheadI s.next s.next = 0 := by unfold aheadI; simp
    have e1 : (cutA a s.next) = max (-(aheadI s.next a)) 0 := rfl
    have e2 : (cutB a data.length s.next (s.room - s.taken)) = min (s.room - s.taken - aheadI s.next a) data.length := rfl
    split
    · rename_i hge
      simp only [hz]
      rw [e1, e2] at hge
      rw [if_pos (by omega), List.getElem?_nil]
      symm
      by_cases h1 : aheadI s.next a ≤ j
      · rw [if_pos h1]
        exact List.getElem?_eq_none (by omega)
      · rw [if_neg h1]
    · rename_i hlt
      have hc : aheadI s.next (addI a (cutA a s.next)) = aheadI s.next a + cutA a s.next := by
        rw [e1, e2] at hlt
        rw [e1]
        have hb := aheadI_bd s.next a
        have h1 : aheadI s.next a = (a - s.next) % 4294967296 ∨ aheadI s.next a = (a - s.next) % 4294967296 - 4294967296 := by unfold aheadI; split <;> simp
        generalize aheadI s.next a = off at *
        unfold aheadI addI
        have h2 : ((a + max (-off) 0) % 4294967296 - s.next) % 4294967296 = off + max (-off) 0 := by
          rcases h1 with h1 | h1 <;> omega
        rw [h2]
        split <;> omega
      simp only [hc]
      rw [e1, e2] at hlt ⊢
      generalize aheadI s.next a = off at *
      by_cases h1 : off ≤ j
      · rw [if_pos h1, if_pos (by omega), List.getElem?_take, List.getElem?_drop]
        by_cases h2 : ((s.taken + (j : Int)) - (s.taken + (off + max (-off) 0))).toNat < (min (s.room - s.taken - off) (data.length : Int)).toNat - (max (-off) 0).toNat
        · rw [if_pos h2]
          congr 1
          omega
        · rw [if_neg h2]
          exact (List.getElem?_eq_none (by omega)).symm
      · rw [if_neg h1]
        by_cases h3 : s.taken + (off + max (-off) 0) ≤ s.taken + (j : Int)
        · omega
        · rw [if_neg h3]
end Go.Proofs.Ytknlcieceghaiaa
