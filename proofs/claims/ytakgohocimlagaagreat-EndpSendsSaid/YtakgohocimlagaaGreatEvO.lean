/-
  An evaluator over plain data (15): a region that draws its order: plain facts on traces, orders and temporaries. Of no program. No condition.
-/
import Derived.Test.YtakgohocimlagaaGreatEvN
namespace Go.Proofs.YtakgohocimlagaaGreat
namespace Ev
variable [E : Inhabited EnvT]
set_option linter.unusedVariables false
set_option linter.unusedSectionVars false
set_option linter.unusedSimpArgs false
open Go.RowKit Go.IntWalk

/-! ### the trace -/
/-- a run in the order of the text, state by state, with each operation's value -/
structure Trace (call : CallF) (sy : Bool) (l : List ROp) (sn : Nat → CS) (vv : Nat → AV) : Prop where
  at_ : ∀ k o, l[k]? = some o → execG call sy o (sn k).tm (sn k).ms = some (vv k, (sn (k + 1)).ms) ∧ (sn (k + 1)).tm = putT (sn k).tm o.dst (vv k)

theorem runTr_inv {call : CallF} {sy : Bool} : ∀ {l : List ROp} {tm : TM} {s : MS} {ss : List CS} {f : CS}, runTr call sy l tm s = some (ss, f) → ss.length = l.length ∧ (ss ++ [f])[0]? = some ⟨tm, s⟩ ∧
    ∀ (k : Nat) (o : ROp), l[k]? = some o → ∃ c c', (ss ++ [f])[k]? = some c ∧ (ss ++ [f])[k + 1]? = some c' ∧ exec1 call sy o c.tm c.ms = some c'
  | [], tm, s, ss, f, h => by cases h; simp
  | o :: r, tm, s, ss, f, h => by
    simp only [runTr] at h
    split at h <;> (try (cases h; done))
    rename_i tm' s' h1
    split at h <;> cases h
    rename_i ss' h2
    obtain ⟨i1, i2, i3⟩ := runTr_inv h2
    refine ⟨by simp [i1], rfl, fun k o' hk => ?_⟩
    cases k with
    | zero =>
      simp only [List.getElem?_cons_zero, Option.some.injEq] at hk
      subst hk
      exact ⟨⟨tm, s⟩, ⟨tm', s'⟩, rfl, by simpa using i2, h1⟩
    | succ k =>
      obtain ⟨c, c', h3, h4, h5⟩ := i3 k o' (by simpa using hk)
      exact ⟨c, c', by simpa using h3, by simpa using h4, h5⟩

theorem trace_of {call : CallF} {sy : Bool} {l : List ROp} {tm : TM} {s : MS} {ss : List CS} {f : CS} (h : runTr call sy l tm s = some (ss, f)) :
    ∃ sn vv, Trace call sy l sn vv ∧ sn 0 = ⟨tm, s⟩ ∧ sn l.length = f ∧ ∀ k, k < l.length → ss[k]? = some (sn k) := by
  obtain ⟨h1, h2, h3⟩ := runTr_inv h
  let sn : Nat → CS := fun k => ((ss ++ [f])[k]?).getD f
  have hs : ∀ k c, (ss ++ [f])[k]? = some c → sn k = c := fun k c hc => by simp only [sn, hc, Option.getD_some]
  have hex : ∀ k, ∃ v, ∀ o, l[k]? = some o → execG call sy o (sn k).tm (sn k).ms = some (v, (sn (k + 1)).ms) ∧ (sn (k + 1)).tm = putT (sn k).tm o.dst v := by
    intro k
    cases ho : l[k]? with
    | none => exact ⟨.nilp, fun o h => by cases h⟩
    | some o =>
      obtain ⟨c, c', h4, h5, h6⟩ := h3 k o ho
      obtain ⟨v, hv, htm⟩ := exec1_some h6
      refine ⟨v, fun o' ho' => ?_⟩
      cases ho'
      rw [hs k c h4, hs (k + 1) c' h5]
      exact ⟨hv, htm⟩
  refine ⟨sn, fun k => Classical.choose (hex k), ⟨fun k o ho => Classical.choose_spec (hex k) o ho⟩, hs 0 _ h2, hs _ _ (by rw [← h1]; simp), fun k hk => ?_⟩
  rw [← h1] at hk
  have : (ss ++ [f])[k]? = ss[k]? := List.getElem?_append_left hk
  have hk' : ss[k]? = some ss[k] := List.getElem?_eq_getElem hk
  rw [hk', hs k ss[k] (by rw [this, hk'])]

/-! ### what must come ahead -/
theorem maskOf_bits {pms : T Nat} : ∀ {es : List Edge} {m : Nat}, maskOf pms es = some m →
    (∀ e ∈ es, binds e = true → (∃ p, pms.get e.on = some p) ∧ Nat.testBit m e.on = true) ∧
    ∀ i, Nat.testBit m i = true → ∃ e ∈ es, binds e = true ∧ ∃ p, pms.get e.on = some p ∧ (i = e.on ∨ Nat.testBit p i = true)
  | [], m, h => by simp only [maskOf, Option.some.injEq] at h; subst h; simp
  | e :: r, m, h => by
    simp only [maskOf] at h
    split at h <;> (try (cases h; done))
    rename_i m0 h0
    obtain ⟨i1, i2⟩ := maskOf_bits h0
    split at h
    · rename_i hb
      cases h
      refine ⟨fun e' he' hb' => ?_, fun i hi => ?_⟩
      · rcases List.mem_cons.1 he' with rfl | he'
        · rw [hb] at hb'; cases hb'
        · exact i1 e' he' hb'
      · obtain ⟨e', h1, h2⟩ := i2 i hi
        exact ⟨e', List.mem_cons_of_mem _ h1, h2⟩
    · rename_i hb
      split at h <;> cases h
      rename_i p hp
      have ht : ∀ i, Nat.testBit (Nat.lor m0 (Nat.lor p (2 ^ e.on))) i = (Nat.testBit m0 i || (Nat.testBit p i || decide (e.on = i))) := fun i => by
        show Nat.testBit (m0 ||| (p ||| 2 ^ e.on)) i = _
        rw [Nat.testBit_or, Nat.testBit_or, Nat.testBit_two_pow]
      refine ⟨fun e' he' hb' => ?_, fun i hi => ?_⟩
      · rcases List.mem_cons.1 he' with rfl | he'
        · exact ⟨⟨p, hp⟩, by rw [ht]; simp⟩
        · exact ⟨(i1 e' he' hb').1, by rw [ht, (i1 e' he' hb').2]; simp⟩
      · rw [ht] at hi
        simp only [Bool.or_eq_true, decide_eq_true_eq] at hi
        rcases hi with hi | hi | hi
        · obtain ⟨e', h1, h2⟩ := i2 i hi
          exact ⟨e', List.mem_cons_of_mem _ h1, h2⟩
        · exact ⟨e, by simp, hb, p, hp, .inr hi⟩
        · exact ⟨e, by simp, hb, p, hp, .inl hi.symm⟩

theorem pairsFrom_at {x : ROp} {i : Nat} : ∀ {r : List ROp}, pairsFrom i x r = true → ∀ (k : Nat) (y : ROp), r[k]? = some y → pairOk i x y = true
  | [], _, k, y, hy => by simp at hy
  | z :: r, h, k, y, hy => by
    simp only [pairsFrom, Bool.and_eq_true] at h
    cases k with
    | zero => simp at hy; subst hy; exact h.1
    | succ k => exact pairsFrom_at h.2 k y (by simpa using hy)
theorem pairsAll_at : ∀ {l : List ROp} {b : Nat}, pairsAll b l = true → ∀ (i j : Nat) (x y : ROp), i < j → l[i]? = some x → l[j]? = some y → pairOk (b + i) x y = true
  | [], b, h, i, j, x, y, hij, hx, hy => by simp at hx
  | z :: r, b, h, i, j, x, y, hij, hx, hy => by
    simp only [pairsAll, Bool.and_eq_true] at h
    cases i with
    | zero =>
      simp at hx; subst hx
      obtain ⟨j', rfl⟩ : ∃ j', j = j' + 1 := ⟨j - 1, by omega⟩
      exact pairsFrom_at h.1 j' y (by simpa using hy)
    | succ i =>
      obtain ⟨j', rfl⟩ : ∃ j', j = j' + 1 := ⟨j - 1, by omega⟩
      have := pairsAll_at h.2 i j' x y (by omega) (by simpa using hx) (by simpa using hy)
      have e : b + 1 + i = b + (i + 1) := by omega
      rw [e] at this; exact this

/-- two operations, the first ahead in the text: bound, or apart -/
theorem pair_cases {i : Nat} {x y : ROp} (h : pairOk i x y = true) : Nat.testBit y.pm i = true ∨
    (¬ (isE x.op = true ∧ isE y.op = true) ∧ (∀ d, x.dst = some d → d ∉ readsO y ∧ y.dst ≠ some d) ∧ (∀ d, y.dst = some d → d ∉ readsO x)) := by
  unfold pairOk at h
  simp only [Bool.or_eq_true, Bool.and_eq_true, Bool.not_eq_true', Bool.and_eq_false_iff] at h
  rcases h with h | ⟨⟨h1, h2⟩, h3⟩
  · exact .inl h
  · refine .inr ⟨fun ⟨a, b⟩ => ?_, fun d hd => ?_, fun d hd => ?_⟩
    · rcases h1 with h1 | h1
      · rw [a] at h1; cases h1
      · rw [b] at h1; cases h1
    · rw [hd] at h2
      simp only [Bool.and_eq_true, Bool.not_eq_true', bne_iff_ne, ne_eq] at h2
      exact ⟨by simpa using h2.1, h2.2⟩
    · rw [hd] at h3
      simpa using h3

/-! ### the temporaries, of the operations that were carried out -/
section
variable (l : List ROp) (tm0 : TM) (vv : Nat → AV)
/-- what a temporary holds when the operations of S were carried out -/
def TV (S : Nat → Prop) (t : Nat) (v : AV) : Prop :=
  (∃ i o, l[i]? = some o ∧ S i ∧ o.dst = some t ∧ v = vv i ∧ ∀ i' o', l[i']? = some o' → S i' → o'.dst = some t → i' ≤ i) ∨
  ((∀ i o, l[i]? = some o → S i → o.dst ≠ some t) ∧ tm0.get t = some v)
end
theorem TV.congr {l : List ROp} {tm0 : TM} {vv : Nat → AV} {S S' : Nat → Prop} {t : Nat} {v : AV} (h : TV l tm0 vv S t v) (hS : ∀ i o, l[i]? = some o → o.dst = some t → (S i ↔ S' i)) : TV l tm0 vv S' t v := by
  rcases h with ⟨i, o, h1, h2, h3, h4, h5⟩ | ⟨h1, h2⟩
  · exact .inl ⟨i, o, h1, (hS i o h1 h3).1 h2, h3, h4, fun i' o' h6 h7 h8 => h5 i' o' h6 ((hS i' o' h6 h8).2 h7) h8⟩
  · exact .inr ⟨fun i o h3 h4 h5 => h1 i o h3 ((hS i o h3 h5).2 h4) h5, h2⟩
theorem TV.snap {call : CallF} {sy : Bool} {l : List ROp} {sn : Nat → CS} {vv : Nat → AV} (hT : Trace call sy l sn vv) : ∀ k, k ≤ l.length → ∀ t v, (sn k).tm.get t = some v → TV l (sn 0).tm vv (fun i => i < k) t v
  | 0, _, t, v, h => .inr ⟨fun i o _ h => absurd h (by omega), h⟩
  | k + 1, hk, t, v, h => by
    obtain ⟨o, ho⟩ : ∃ o, l[k]? = some o := ⟨l[k], List.getElem?_eq_getElem (by omega)⟩
    have htm := (hT.at_ k o ho).2
    by_cases hd : o.dst = some t
    · rw [htm, hd] at h
      simp only [putT, TM.get_set, if_true, Option.some.injEq] at h
      subst h
      exact .inl ⟨k, o, ho, by omega, hd, rfl, fun i' o' _ h _ => by omega⟩
    · have h' : (sn k).tm.get t = some v := by
        rw [htm] at h
        cases hdd : o.dst with
        | none => rw [hdd] at h; exact h
        | some d =>
          rw [hdd] at h hd
          simp only [putT, TM.get_set] at h
          rw [if_neg (fun e => hd (by rw [e]))] at h
          exact h
      refine (TV.snap hT k (by omega) t v h').congr fun i o' hi hdi => ⟨fun h => by omega, fun h => ?_⟩
      have : i ≠ k := fun e => by subst e; rw [ho] at hi; cases hi; exact hd hdi
      omega

/-- a trie of some of another's entries -/
def someOf (tm : TM) : List Nat → TM
  | [] => TM.e
  | t :: r => match tm.get t with
    | some v => (someOf tm r).set t v
    | none => someOf tm r
theorem someOf_in {tm : TM} : ∀ {r : List Nat} {t : Nat}, t ∈ r → (someOf tm r).get t = tm.get t
  | [], t, h => by simp at h
  | x :: r, t, h => by
    simp only [someOf]
    by_cases hx : t = x
    · subst hx
      cases hg : tm.get t with
      | some v => simp only [TM.get_set, if_true]
      | none =>
        by_cases ht : t ∈ r
        · simp only []; rw [someOf_in ht, hg]
        · have : ∀ {r : List Nat}, t ∉ r → (someOf tm r).get t = none := by
            intro r
            induction r with
            | nil => intro _; rfl
            | cons y r ih =>
              intro hn
              simp only [List.mem_cons, not_or] at hn
              simp only [someOf]
              split
              · rw [TM.get_set, if_neg hn.1]; exact ih hn.2
              · exact ih hn.2
          simp only []; exact this ht
    · have ht : t ∈ r := by
        rcases List.mem_cons.1 h with h | h
        · exact absurd h hx
        · exact h
      split
      · rw [TM.get_set, if_neg hx]; exact someOf_in ht
      · exact someOf_in ht
theorem someOf_get {tm : TM} : ∀ {r : List Nat} {t : Nat} {v : AV}, (someOf tm r).get t = some v → t ∈ r ∧ tm.get t = some v
  | [], t, v, h => by simp only [someOf, TM.get_e] at h; cases h
  | x :: r, t, v, h => by
    simp only [someOf] at h
    split at h
    · rename_i u hu
      rw [TM.get_set] at h
      split at h
      · rename_i e; subst e; cases h; exact ⟨by simp, hu⟩
      · obtain ⟨h1, h2⟩ := someOf_get h; exact ⟨List.mem_cons_of_mem _ h1, h2⟩
    · obtain ⟨h1, h2⟩ := someOf_get h; exact ⟨List.mem_cons_of_mem _ h1, h2⟩

theorem getA_congr {tm tm' : TM} {x : CA} (h : ∀ t ∈ tmpsA [x], tm'.get t = tm.get t) : getA tm' x = getA tm x := by
  cases x with
  | t n => exact h n (by simp [tmpsA])
  | k v => rfl
  | g id => rfl
theorem getAs_congr {tm tm' : TM} : ∀ {xs : List CA}, (∀ t ∈ tmpsA xs, tm'.get t = tm.get t) → getAs tm' xs = getAs tm xs
  | [], _ => rfl
  | x :: r, h => by
    have h1 : getA tm' x = getA tm x := getA_congr fun t ht => h t (by
      cases x <;> simp [tmpsA] at ht ⊢; exact .inl ht)
    have h2 : getAs tm' r = getAs tm r := getAs_congr fun t ht => h t (by
      cases x <;> simp [tmpsA] at ht ⊢ <;> first | exact .inr ht | exact ht)
    simp only [getAs, h1, h2]
theorem tmpsA_sub {x : CA} {xs : List CA} (h : x ∈ xs) : ∀ t ∈ tmpsA [x], t ∈ tmpsA xs := by
  intro t ht
  induction xs with
  | nil => cases h
  | cons y r ih =>
    rcases List.mem_cons.1 h with rfl | h
    · cases x <;> simp [tmpsA] at ht ⊢; exact .inl ht
    · have := ih h
      cases y <;> simp [tmpsA] <;> first | exact .inr this | exact this

/-- an operation reads no other temporaries -/
theorem execG_congr {call : CallF} {sy : Bool} {o : ROp} {tm tm' : TM} {s : MS} (h : ∀ t ∈ readsO o, tm'.get t = tm.get t) : execG call sy o tm' s = execG call sy o tm s := by
  obtain ⟨dst, g, op, pm⟩ := o
  have hv : ∀ s, execV call sy op tm' s = execV call sy op tm s := by
    intro s
    cases op with
    | p k xs => simp only [execV, getAs_congr (xs := xs) fun t ht => h t (by simp [readsO, ht])]
    | pick c a b =>
      have hx : ∀ x ∈ [c, a, b], getA tm' x = getA tm x := fun x hx => getA_congr fun t ht => h t (by
        have := tmpsA_sub hx t ht
        simp [readsO, this])
      simp only [execV, hx c (by simp), hx a (by simp), hx b (by simp)]
    | l k xs => simp only [execV, getAs_congr (xs := xs) fun t ht => h t (by simp [readsO, ht])]
    | a k xs => simp only [execV, getAs_congr (xs := xs) fun t ht => h t (by simp [readsO, ht])]
    | m x => simp only [execV, getA_congr (x := x) fun t ht => h t (by simp [readsO, ht])]
    | e k xs => simp only [execV, getAs_congr (xs := xs) fun t ht => h t (by simp [readsO, ht])]
    | call xs => simp only [execV, getAs_congr (xs := xs) fun t ht => h t (by simp [readsO, ht])]
    | bad => rfl
  unfold execG want
  cases g with
  | none => simp only [hv]
  | some p =>
    obtain ⟨t, b⟩ := p
    have : tm'.get t = tm.get t := h t (by simp [readsO])
    simp only [this, hv]

/-! ### what stays -/
theorem confl_mem {j pmj : Nat} : ∀ {l : List ROp} {b : Nat} (x : Nat) (o : ROp), l[x]? = some o → (isE o.op || isA o.op) = true → Nat.testBit pmj (b + x) = false → Nat.testBit o.pm j = false → b + x ≠ j → b + x ∈ conflFrom j pmj b l
  | [], b, x, o, ho, _, _, _, _ => by simp at ho
  | o0 :: l, b, x, o, ho, he, h1, h2, h3 => by
    simp only [conflFrom]
    cases x with
    | zero =>
      simp only [List.getElem?_cons_zero, Option.some.injEq] at ho
      subst ho
      have hcond : ((isE o0.op || isA o0.op) && !(Nat.testBit pmj b) && !(Nat.testBit o0.pm j) && !(Nat.beq b j)) = true := by
        rw [he]
        simp only [Nat.add_zero] at h1 h3
        rw [h1, h2]
        have : Nat.beq b j = false := by
          cases hb : Nat.beq b j with
          | false => rfl
          | true => exact absurd (Nat.eq_of_beq_eq_true hb) h3
        rw [this]; rfl
      rw [hcond]
      simp
    | succ x =>
      have e : b + 1 + x = b + (x + 1) := by omega
      have := confl_mem (j := j) (pmj := pmj) (l := l) (b := b + 1) x o (by simpa using ho) he (by rw [e]; exact h1) h2 (by rw [e]; exact h3)
      rw [e] at this
      split
      · exact List.mem_cons_of_mem _ this
      · exact this
theorem staysX_at {r : Nat} {ss : List CS} : ∀ {xs : List Nat}, staysX r ss xs = true → ∀ x ∈ xs, ∀ c c', ss[x]? = some c → ss[x + 1]? = some c' → ∀ sl, c'.ms.mem.get r = some sl → sl.st < c.ms.n
  | [], _, x, hx, _, _, _, _, _, _ => by cases hx
  | y :: ys, h, x, hx, c, c', hc, hc', sl, hsl => by
    simp only [staysX] at h
    split at h
    · rename_i s s' hs hs'
      have hrest : staysX r ss ys = true := by
        split at h
        · split at h
          · exact h
          · cases h
        · exact h
      rcases List.mem_cons.1 hx with rfl | hx
      · rw [hs] at hc; cases hc
        rw [hs'] at hc'; cases hc'
        rw [hsl] at h
        simp only [] at h
        split at h
        · rename_i hb; exact Nat.le_of_ble_eq_true hb
        · cases h
      · exact staysX_at hrest x hx c c' hc hc' sl hsl
    · cases h
theorem staysAll_at {l : List ROp} {ss : List CS} : ∀ {l' : List ROp} {ss' : List CS} {b : Nat}, staysAll l ss b l' ss' = true → ∀ (j : Nat) (o : ROp) (c : CS) (r : Nat), l'[j]? = some o → ss'[j]? = some c →
    readOf o c.tm = some r → ∀ x ∈ conflFrom (b + j) o.pm 0 l, ∀ c c', ss[x]? = some c → ss[x + 1]? = some c' → ∀ sl, c'.ms.mem.get r = some sl → sl.st < c.ms.n
  | [], ss', b, h, j, o, c, r, ho, hc, hr => by simp at ho
  | o0 :: l', [], b, h, j, o, c, r, ho, hc, hr => by simp at hc
  | o0 :: l', s :: ss', b, h, j, o, c, r, ho, hc, hr => by
    simp only [staysAll] at h
    cases j with
    | zero =>
      simp at ho hc; subst ho; subst hc
      have hrd : isRd o0.op = true := by
        unfold readOf at hr
        unfold isRd
        split at hr <;> simp_all
      rw [hrd] at h
      simp only [] at h
      intro x hx
      rw [Nat.add_zero] at hx
      split at h
      · rename_i hnil; rw [hnil] at hx; cases hx
      · rename_i y ys hcons
        rw [hr] at h
        simp only [] at h
        rw [hcons] at hx
        split at h
        · rename_i hst; exact staysX_at hst x hx
        · cases h
    | succ j =>
      have hrec : staysAll l ss (b + 1) l' ss' = true := by
        split at h
        · exact h
        · split at h
          · exact h
          · split at h
            · exact h
            · split at h
              · exact h
              · cases h
      have e : b + 1 + j = b + (j + 1) := by omega
      have := staysAll_at hrec j o c r (by simpa using ho) (by simpa using hc) hr
      rw [e] at this; exact this
end Ev
end Go.Proofs.YtakgohocimlagaaGreat
