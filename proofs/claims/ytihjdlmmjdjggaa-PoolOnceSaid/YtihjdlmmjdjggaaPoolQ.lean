/-
  Plain facts for the law PoolOnce: taken, free and resting ports are all. No condition.
-/
import Derived.Test.YtihjdlmmjdjggaaPoolP
namespace Go.Proofs.Ytihjdlmmjdjggaa

def cnt (g : Int → Bool) : Nat → Int → Nat
  | 0, _ => 0
  | n + 1, p => (if g p then 1 else 0) + cnt g n (p + 1)
theorem frees_cnt (s : PS) : ∀ (n : Nat) (p : Int), s.frees n p = cnt s.free n p
  | 0, _ => rfl
  | n + 1, p => by rw [PS.frees, cnt, frees_cnt s n (p + 1)]
theorem cnt_congr {g h : Int → Bool} : ∀ (n : Nat) (p : Int), (∀ k, p ≤ k → k < p + n → g k = h k) → cnt g n p = cnt h n p
  | 0, _, _ => rfl
  | n + 1, p, e => by
    rw [cnt, cnt, e p (by omega) (by omega), cnt_congr n (p + 1) (fun k h1 h2 => e k (by omega) (by omega))]
theorem cnt_false : ∀ (n : Nat) (p : Int), cnt (fun _ => false) n p = 0
  | 0, _ => rfl
  | n + 1, p => by rw [cnt, cnt_false n (p + 1)]; rfl
theorem cnt_three {f g h : Int → Bool} : ∀ (n : Nat) (p : Int), (∀ k, (if f k then 1 else 0) + (if g k then 1 else 0) + (if h k then 1 else 0) = 1) → cnt f n p + cnt g n p + cnt h n p = n
  | 0, _, _ => rfl
  | n + 1, p, e => by
    have ih := cnt_three n (p + 1) e
    have e0 := e p
    simp only [cnt]
    omega
theorem cnt_point {g h : Int → Bool} (a : Int) (hg : ∀ k, k ≠ a → g k = h k) (ha : h a = false) : ∀ (n : Nat) (p : Int), p ≤ a → a < p + n → cnt g n p = (if g a then 1 else 0) + cnt h n p
  | 0, p, h1, h2 => by omega
  | n + 1, p, h1, h2 => by
    by_cases hp : p = a
    · subst hp
      rw [cnt, cnt, ha, cnt_congr n (p + 1) (fun k h3 h4 => hg k (by omega))]
      simp
    · rw [cnt, cnt, cnt_point a hg ha n (p + 1) (by omega) (by omega), hg p hp]
      omega
theorem count_al {α : Type} (f : Int → α → Bool) (n : Nat) (p : Int) : ∀ (l : List (Int × α)), (AL.keys l).Nodup → (∀ k ∈ AL.keys l, p ≤ k ∧ k < p + n) → l.countP (fun x => f x.1 x.2) = cnt (fun k => (AL.find k l).any (f k)) n p
  | [], _, _ => by simp [AL.find, cnt_false]
  | x :: r, hn, hr => by
    rw [AL.keys_cons, List.nodup_cons] at hn
    have ih := count_al f n p r hn.2 (fun k hk => hr k (by rw [AL.keys_cons]; exact List.mem_cons_of_mem _ hk))
    have hx := hr x.1 (by rw [AL.keys_cons]; exact List.mem_cons_self)
    rw [cnt_point (h := fun k => (AL.find k r).any (f k)) x.1 (fun k hk => by rw [AL.find, if_neg (fun e => hk e.symm)]) (by rw [AL.find_none.2 hn.1]; rfl) n p hx.1 hx.2, ← ih, List.countP_cons]
    simp [AL.find]
    omega

/-- What holds of the pool and of the law's two maps. -/
structure PInv (s : PS) (T U : List (Int × Int)) (now : Int) : Prop where
  tk : T = s.taken.map (fun x => (x.1, 1))
  tn : (AL.keys s.taken).Nodup
  tr : ∀ k ∈ AL.keys s.taken, s.low ≤ k ∧ k ≤ s.high
  un : (AL.keys U).Nodup
  ur : ∀ k ∈ AL.keys U, s.low ≤ k ∧ k ≤ s.high
  ln : (AL.keys s.til).Nodup
  fe : ∀ p, p ∉ AL.keys s.taken → AL.find p U = AL.find p s.til
  nw : s.now ≤ now
  pos : 0 ≤ now

theorem find_map1 (k : Int) : ∀ (l : List (Int × Unit)), AL.find k (l.map (fun x => (x.1, (1 : Int)))) = (AL.find k l).map (fun _ => 1)
  | [] => rfl
  | x :: r => by
    simp only [List.map_cons, AL.find]
    split
    · simp
    · exact find_map1 k r
theorem put_map1 (k : Int) : ∀ (l : List (Int × Unit)), AL.put k 1 (l.map (fun x => (x.1, (1 : Int)))) = (AL.put k () l).map (fun x => (x.1, 1))
  | [] => rfl
  | x :: r => by
    simp only [List.map_cons, AL.put]
    split
    · simp
    · simp [put_map1 k r]
theorem del_map1 (k : Int) : ∀ (l : List (Int × Unit)), AL.del k (l.map (fun x => (x.1, (1 : Int)))) = (AL.del k l).map (fun x => (x.1, 1))
  | [] => rfl
  | x :: r => by
    simp only [List.map_cons, AL.del]
    split
    · rfl
    · simp [del_map1 k r]
theorem PInv.look {s : PS} {T U : List (Int × Int)} {now : Int} (h : PInv s T U now) (p : Int) : (AL.find p T).getD 0 = if s.tkn p then 1 else 0 := by
  rw [h.tk, find_map1]
  unfold PS.tkn
  cases AL.find p s.taken <;> simp
theorem tkn_iff (s : PS) (p : Int) : s.tkn p = true ↔ p ∈ AL.keys s.taken := by
  unfold PS.tkn
  cases hf : AL.find p s.taken with
  | none => simpa using AL.find_none.1 hf
  | some v =>
    simp only [Option.isSome_some, true_iff]
    exact Classical.byContradiction fun hn => by rw [AL.find_none.2 hn] at hf; cases hf
theorem PInv.at {s : PS} {T U : List (Int × Int)} {now : Int} (h : PInv s T U now) : PInv (s.at now) T U now ∧ (s.at now).now = now := by
  have hm : (s.at now).now = now := by have := h.nw; simp only [PS.at]; omega
  exact ⟨⟨h.tk, h.tn, h.tr, h.un, h.ur, h.ln, h.fe, by omega, h.pos⟩, hm⟩
theorem PInv.later {s : PS} {T U : List (Int × Int)} {now now' : Int} (h : PInv s T U now) (hl : now ≤ now') : PInv s T U now' :=
  ⟨h.tk, h.tn, h.tr, h.un, h.ur, h.ln, h.fe, by have := h.nw; omega, by have := h.pos; omega⟩
theorem PInv.give {s : PS} {T U : List (Int × Int)} {now : Int} (h : PInv s T U now) (hm : now ≤ maxTime) {p : Int} (ht : s.tkn p = true) :
    s.give p now = (0, (s.give p now).2) ∧ PInv (s.give p now).2 (AL.del p T) (AL.put p (now + s.rest) U) now ∧ (s.give p now).2.low = s.low ∧ (s.give p now).2.high = s.high ∧ (s.give p now).2.rest = s.rest := by
  have hg : s.give p now = (0, { s.at now with taken := AL.del p s.taken, til := AL.put p ((s.at now).now + s.rest) s.til }) := by
    unfold PS.give; rw [if_neg (by omega), if_neg (by simp [ht])]
  have hn := h.at.2
  have hpm := (tkn_iff s p).1 ht
  rw [hg]
  refine ⟨rfl, ⟨?_, ?_, ?_, ?_, ?_, ?_, ?_, ?_, h.pos⟩, rfl, rfl, rfl⟩
  · simp only; rw [h.tk, del_map1]
  · exact AL.nodup_del p h.tn
  · intro k hk
    simp only at hk
    rw [AL.keys_del] at hk
    exact h.tr k (List.mem_of_mem_erase hk)
  · exact AL.nodup_put p _ h.un
  · intro k hk
    rw [AL.keys_put] at hk
    have hp := h.tr p hpm
    split at hk
    · exact h.ur k hk
    · rcases List.mem_append.1 hk with hk | hk
      · exact h.ur k hk
      · simp at hk; subst hk; exact hp
  · exact AL.nodup_put p _ h.ln
  · intro q hq
    simp only at hq ⊢
    rw [AL.find_put, AL.find_put, hn]
    by_cases e : q = p
    · simp [e]
    · simp only [e, if_false]
      refine h.fe q (fun hm => hq ?_)
      rw [AL.keys_del]
      exact (List.mem_erase_of_ne e).2 hm
  · show (s.at now).now ≤ now
    omega
theorem PS.give_no {s : PS} {now : Int} (hm : now ≤ maxTime) {p : Int} (ht : s.tkn p = false) : s.give p now = (6, s) := by
  unfold PS.give; rw [if_neg (by omega), if_pos ht]
theorem PInv.all {s : PS} {T U : List (Int × Int)} {now : Int} (h : PInv s T U now) (hnow : s.now = now) (hlh : s.low ≤ s.high) :
    s.frees s.num s.low + U.countP (fun x => !s.tkn x.1 && decide (now < x.2)) + T.length = s.num ∧ s.taken.length = T.length := by
  have hT : T.length = s.taken.length := by rw [h.tk]; simp
  have hrange : ∀ {l : List Int}, (∀ k ∈ l, s.low ≤ k ∧ k ≤ s.high) → ∀ k ∈ l, s.low ≤ k ∧ k < s.low + s.num := fun hl k hk => by have := hl k hk; unfold PS.num; omega
  have c1 := count_al (fun _ _ => true) s.num s.low s.taken h.tn (hrange h.tr)
  have c2 := count_al (fun k v => !s.tkn k && decide (now < v)) s.num s.low U h.un (hrange h.ur)
  rw [List.countP_true] at c1
  refine ⟨?_, hT.symm⟩
  rw [hT, c1, c2, frees_cnt]
  have e2 : ∀ k, ((AL.find k U).any fun v => !s.tkn k && decide (now < v)) = (!s.tkn k && decide (now < s.til' k)) := by
    intro k
    by_cases ht : s.tkn k = true
    · simp [ht]
    · simp only [Bool.not_eq_true] at ht
      rw [h.fe k (fun hm => by rw [(tkn_iff s k).2 hm] at ht; cases ht)]
      unfold PS.til'
      have := h.pos
      cases AL.find k s.til with
      | none => simp [ht]; omega
      | some v => simp [ht]
  have e1 : ∀ k, ((AL.find k s.taken).any fun _ => true) = s.tkn k := by
    intro k; unfold PS.tkn; cases AL.find k s.taken <;> rfl
  rw [cnt_congr s.num s.low (g := fun k => (AL.find k U).any fun v => !s.tkn k && decide (now < v)) (h := fun k => !s.tkn k && decide (now < s.til' k)) (fun k _ _ => e2 k),
    cnt_congr s.num s.low (g := fun k => (AL.find k s.taken).any fun _ => true) (h := s.tkn) (fun k _ _ => e1 k)]
  have := cnt_three (f := s.free) (g := fun k => !s.tkn k && decide (now < s.til' k)) (h := s.tkn) s.num s.low (fun k => by
    unfold PS.free
    rw [hnow]
    cases s.tkn k
    · by_cases hc : now < s.til' k
      · have : ¬ s.til' k ≤ now := by omega
        simp [hc, this]
      · have : s.til' k ≤ now := by omega
        simp [hc, this]
    · simp)
  exact this
theorem frees_pos (s : PS) : ∀ (n : Nat) (p : Int), 0 < s.frees n p ↔ (s.scan n p).isSome = true
  | 0, _ => by simp [PS.frees, PS.scan]
  | n + 1, p => by
    rw [PS.frees, PS.scan]
    by_cases hf : s.free p = true
    · simp [hf]; omega
    · simp only [Bool.not_eq_true] at hf
      simp [hf, frees_pos s n (p + 1)]
theorem PInv.take {s : PS} {T U : List (Int × Int)} {now : Int} (h : PInv s T U now) (hnow : s.now = now) (hm : now ≤ maxTime) (hlh : s.low ≤ s.high) :
    (s.frees s.num s.low = 0 ∧ s.take now = (0, 7, s)) ∨
    ∃ n, 0 < s.frees s.num s.low ∧ s.take now = (n, 0, s.got n) ∧ s.low ≤ n ∧ n ≤ s.high ∧ s.tkn n = false ∧ (AL.find n U).getD 0 ≤ now ∧ (s.got n).tkn n = true ∧ PInv (s.got n) (AL.put n 1 T) U now := by
  have hat : s.at now = s := by
    cases s; simp only [PS.at] at *; congr 1; omega
  have htk : s.take now = (match s.scan s.num s.low with | some p => (p, 0, s.got p) | none => (0, 7, s)) := by
    unfold PS.take; rw [if_neg (by omega), hat]; rfl
  cases hs : s.scan s.num s.low with
  | none =>
    left
    refine ⟨?_, by rw [htk, hs]⟩
    rcases Nat.eq_zero_or_pos (s.frees s.num s.low) with h0 | h0
    · exact h0
    · have := (frees_pos s s.num s.low).1 h0
      rw [hs] at this; cases this
  | some n =>
    right
    obtain ⟨j, hj, hn, hf, _⟩ := scan_some s s.num s.low n hs
    have hr : s.low ≤ n ∧ n ≤ s.high := by unfold PS.num at hj; omega
    have hf2 := hf
    unfold PS.free at hf2
    simp only [Bool.and_eq_true, Bool.not_eq_true', decide_eq_true_eq] at hf2
    have hnk : n ∉ AL.keys s.taken := fun hk => by rw [(tkn_iff s n).2 hk] at hf2; cases hf2.1
    have hnf : AL.find n s.taken = none := AL.find_none.2 hnk
    refine ⟨n, (frees_pos s s.num s.low).2 (by rw [hs]; rfl), by rw [htk, hs], hr.1, hr.2, hf2.1, ?_, ?_, ?_⟩
    · rw [h.fe n hnk]
      have := hf2.2
      unfold PS.til' at this
      omega
    · unfold PS.tkn PS.got
      simp only
      rw [AL.find_put]; simp
    · refine ⟨?_, AL.nodup_put n () h.tn, ?_, h.un, h.ur, AL.nodup_del n h.ln, ?_, h.nw, h.pos⟩
      · simp only [PS.got]; rw [h.tk, put_map1]
      · intro k hk
        simp only [PS.got] at hk
        rw [AL.keys_put, if_neg hnk] at hk
        rcases List.mem_append.1 hk with hk | hk
        · exact h.tr k hk
        · simp at hk; subst hk; exact hr
      · intro q hq
        simp only [PS.got] at hq ⊢
        rw [AL.keys_put, if_neg hnk] at hq
        simp only [List.mem_append, List.mem_singleton, not_or] at hq
        rw [AL.find_del n q h.ln, if_neg hq.2]
        exact h.fe q hq.1
end Go.Proofs.Ytihjdlmmjdjggaa
