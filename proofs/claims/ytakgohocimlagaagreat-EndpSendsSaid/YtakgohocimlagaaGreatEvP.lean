/-
  An evaluator over plain data (16): a region that draws its order: in whatever order its edges allow, the end is that of the text's order. Of no program. No condition.
-/
import Derived.Test.YtakgohocimlagaaGreatEvO
namespace Go.Proofs.YtakgohocimlagaaGreat
namespace Ev
variable [E : Inhabited EnvT]
set_option linter.unusedVariables false
set_option linter.unusedSectionVars false
set_option linter.unusedSimpArgs false
open Go.RowKit Go.IntWalk

/-- a region's run, and what was looked at -/
structure DR (P : Program) (G : Nat → Option Nat) (nt : Nat) (ops : Array Oper) (l : List ROp) (call : CallF) (sy : Bool) (sn : Nat → CS) (vv : Nat → AV) : Prop where
  hC : CallOk P G call
  hl : COps P G nt true ops l
  tr : Trace call sy l sn vv
  pairs : pairsAll 0 l = true
  stay : ∀ (j : Nat) (o : ROp) (r : Nat), l[j]? = some o → readOf o (sn j).tm = some r → ∀ (x : Nat) (ox : ROp), l[x]? = some ox → (isE ox.op || isA ox.op) = true → Nat.testBit o.pm x = false → Nat.testBit ox.pm j = false → x ≠ j →
    ∀ sl, (sn (x + 1)).ms.mem.get r = some sl → sl.st < (sn x).ms.n
  ok : (sn l.length).ms.ok
  bd : ∀ id, (sn 0).ms.n ≤ id → (sn 0).ms.mem.get id = none

theorem execA_live {k : AK} {vs : List AV} {n tot : Nat} {o : AO} {v : AV} {q : Bool} (h : execA k vs n = some (o, tot, v, q)) : o ≠ .dead := by
  unfold execA at h
  split at h <;> (try (cases h; done))
  · cases h; simp
  · cases h; simp
  · split at h <;> cases h; simp
  · cases h; simp
  · cases h; simp

section
variable {P : Program} {G : Nat → Option Nat} {nt : Nat} {ops : Array Oper} {l : List ROp} {call : CallF} {sy : Bool} {sn : Nat → CS} {vv : Nat → AV}

theorem DR.get (D : DR P G nt ops l call sy sn vv) {k : Nat} (hk : k < l.length) : ∃ o oper, l[k]? = some o ∧ ops[k]? = some oper := by
  have h2 : k < ops.size := by rw [← D.hl.len]; exact hk
  exact ⟨l[k], ops[k], List.getElem?_eq_getElem hk, by simp [h2]⟩
theorem DR.evo (D : DR P G nt ops l call sy sn vv) {k : Nat} (hk : k < l.length) : EvoS (sn k).ms (sn (k + 1)).ms := by
  obtain ⟨o, oper, ho, _⟩ := D.get hk
  exact execG_evo D.hC (D.tr.at_ k o ho).1
theorem DR.evos (D : DR P G nt ops l call sy sn vv) : ∀ {d k : Nat}, k + d ≤ l.length → EvoS (sn k).ms (sn (k + d)).ms
  | 0, k, _ => EvoS.refl _
  | d + 1, k, h => (D.evos (d := d) (by omega)).trans (by have := D.evo (k := k + d) (by omega); rw [Nat.add_assoc] at this; exact this)
theorem DR.le (D : DR P G nt ops l call sy sn vv) {i j : Nat} (h : i ≤ j) (hj : j ≤ l.length) : (sn i).ms.n ≤ (sn j).ms.n := by
  have := (D.evos (d := j - i) (k := i) (by omega)).evo.le
  have e : i + (j - i) = j := by omega
  rw [e] at this; exact this
theorem DR.okk (D : DR P G nt ops l call sy sn vv) {k : Nat} (hk : k ≤ l.length) : (sn k).ms.ok := by
  have := (D.evos (d := l.length - k) (k := k) (by omega)).ok
  have e : k + (l.length - k) = l.length := by omega
  rw [e] at this; exact this D.ok
theorem DR.bdk (D : DR P G nt ops l call sy sn vv) {k : Nat} (hk : k ≤ l.length) : ∀ id, (sn k).ms.n ≤ id → (sn k).ms.mem.get id = none := by
  have := (D.evos (d := k) (k := 0) (by omega)).evo.bound D.bd
  rw [Nat.zero_add] at this; exact this

/-- an operation that neither writes nor makes -/
theorem execV_plain {o : RO} {tm : TM} {s s' : MS} {v : AV} (h : execV call sy o tm s = some (v, s')) (he : isE o = false) (ha : isA o = false) : s'.mem = s.mem ∧ s'.n = s.n := by
  unfold execV at h
  split at h
  · split at h <;> (try (cases h; done))
    split at h <;> (try (cases h; done))
    obtain ⟨s1, h1, h2, h3, h4⟩ := chk_some h
    cases h1; exact ⟨h2, h3⟩
  · split at h <;> (try (cases h; done))
    obtain ⟨b, s1, h1, h2, h3, h4⟩ := dec_some h
    split at h1 <;> (split at h1 <;> cases h1) <;> exact ⟨h2, h3⟩
  · split at h <;> (try (cases h; done))
    split at h
    · split at h <;> (try (cases h; done))
      split at h <;> cases h
      exact ⟨rfl, rfl⟩
    · split at h <;> cases h
      exact ⟨rfl, rfl⟩
  · simp [isA] at ha
  · split at h <;> (try (cases h; done))
    split at h <;> cases h
    exact ⟨rfl, rfl⟩
  · simp [isE] at he
  · simp [isE] at he
  · cases h
/-- an operation with its guard: not wanted, or carried out -/
theorem execG_cases {o : ROp} {tm : TM} {s s' : MS} {v : AV} (h : execG call sy o tm s = some (v, s')) :
    (v = .tup [] ∧ s'.mem = s.mem ∧ s'.n = s.n ∧ (s'.ok → GuardB tm o.g false)) ∨ (∃ s1, execV call sy o.op tm s1 = some (v, s') ∧ s1.mem = s.mem ∧ s1.n = s.n ∧ (s1.ok → GuardB tm o.g true)) := by
  unfold execG at h
  obtain ⟨b, s1, h1, h2, h3, h4⟩ := want_some h
  cases b
  · cases h1; exact .inl ⟨rfl, h2, h3, fun x => (h4 x).2⟩
  · exact .inr ⟨s1, h1, h2, h3, fun x => (h4 x).2⟩
theorem DR.plain (D : DR P G nt ops l call sy sn vv) {k : Nat} {o : ROp} (ho : l[k]? = some o) (he : isE o.op = false) (ha : isA o.op = false) :
    (sn (k + 1)).ms.mem = (sn k).ms.mem ∧ (sn (k + 1)).ms.n = (sn k).ms.n := by
  rcases execG_cases (D.tr.at_ k o ho).1 with ⟨_, h1, h2, _⟩ | ⟨s1, h, h1, h2, _⟩
  · exact ⟨h1, h2⟩
  · obtain ⟨a, b⟩ := execV_plain h he ha
    exact ⟨a.trans h1, b.trans h2⟩

/-- operation k made a block -/
def Made (l : List ROp) (sn : Nat → CS) (k : Nat) : Prop := (∃ o, l[k]? = some o ∧ isA o.op = true) ∧ (sn k).ms.n < (sn (k + 1)).ms.n
theorem DR.make (D : DR P G nt ops l call sy sn vv) {k : Nat} {o : ROp} (ho : l[k]? = some o) (ha : isA o.op = true) :
    ((sn (k + 1)).ms.mem = (sn k).ms.mem ∧ (sn (k + 1)).ms.n = (sn k).ms.n) ∨
    (∃ ob, ob ≠ .dead ∧ (sn (k + 1)).ms.mem = (sn k).ms.mem.set (sn k).ms.n ⟨ob, (sn k).ms.n, true⟩ ∧ (sn (k + 1)).ms.n = (sn k).ms.n + 1) := by
  rcases execG_cases (D.tr.at_ k o ho).1 with ⟨_, h1, h2, _⟩ | ⟨s1, h, h1, h2, _⟩
  · exact .inl ⟨h1, h2⟩
  · right
    obtain ⟨dst, g, op, pm⟩ := o
    cases op <;> simp only [isA, Bool.false_eq_true] at ha
    simp only [execV] at h
    split at h <;> (try (cases h; done))
    split at h <;> (try (cases h; done))
    rename_i hx
    obtain ⟨s2, g1, g2, g3, g4⟩ := chk_some h
    simp only [Option.some.injEq, Prod.mk.injEq] at g1
    refine ⟨_, execA_live hx, ?_, ?_⟩
    · rw [← g1.2]; simp only [g2, g3, h1, h2]
    · rw [← g1.2]; simp only [g3, h2]
theorem DR.made (D : DR P G nt ops l call sy sn vv) {k : Nat} (hm : Made l sn k) :
    ∃ ob, ob ≠ .dead ∧ (sn (k + 1)).ms.mem = (sn k).ms.mem.set (sn k).ms.n ⟨ob, (sn k).ms.n, true⟩ ∧ (sn (k + 1)).ms.n = (sn k).ms.n + 1 := by
  obtain ⟨⟨o, ho, ha⟩, hlt⟩ := hm
  rcases D.make ho ha with ⟨_, h⟩ | h
  · omega
  · exact h

/-- what holds, whichever operations were carried out, in whatever order -/
structure Inv (nt : Nat) (l : List ROp) (sn : Nat → CS) (vv : Nat → AV) (ρ0 : Mp) (w0 : World) (ds : List Deferred) (S : Nat → Prop) (q : Nat) (ρ : Mp) (M : Mem) (a : Act) (w : World) : Prop where
  q_le : q ≤ l.length
  eS : ∀ (i : Nat) (o : ROp), l[i]? = some o → isE o.op = true → (S i ↔ i < q)
  sim : Sim ρ M w
  up : ∀ id s, (sn q).ms.mem.get id = some s → M id = some s
  down : ∀ id s, M id = some s → (sn q).ms.mem.get id = some s ∨ ∃ j, q ≤ j ∧ j < l.length ∧ S j ∧ Made l sn j ∧ id = (sn j).ms.n ∧ (sn (j + 1)).ms.mem.get id = some s
  pend : ∀ j, q ≤ j → j < l.length → S j → Made l sn j → ∃ s, M (sn j).ms.n = some s ∧ (sn (j + 1)).ms.mem.get (sn j).ms.n = some s
  free : ∀ j, j < l.length → ¬ S j → Free ρ (sn j).ms.n (sn (j + 1)).ms.n
  late : ∀ j, j < q → ¬ S j → Made l sn j → (sn q).ms.mem.get (sn j).ms.n = (sn (j + 1)).ms.mem.get (sn j).ms.n
  ext : Ext ρ0 ρ
  new : ∀ id e, ρ id = some e → ρ0 id = some e ∨ ((sn 0).ms.n ≤ id ∧ id < (sn l.length).ms.n)
  size : w0.heap.size ≤ w.heap.size
  rest : Same w0 w
  frame : ∀ b, b < w0.heap.size → ¬ Own ρ0 (sn 0).ms.mem.get b → w.heap[b]? = w0.heap[b]?
  own : ∀ b, b < w0.heap.size → Own ρ M b → Own ρ0 (sn 0).ms.mem.get b
  off : ∀ id, ρ0 id = none → (id < (sn 0).ms.n ∨ (sn l.length).ms.n ≤ id) → M id = (sn 0).ms.mem.get id
  tsize : a.tmps.size = nt
  tval : ∀ t v, TV l (sn 0).tm vv S t v → t < nt ∧ R ρ v (a.tmps.getD t undef)
  defs : a.defers = ds
  closed : ∀ (j : Nat) (o : ROp), l[j]? = some o → S j → ∀ i, Nat.testBit o.pm i = true → S i

variable {ρ0 : Mp} {w0 : World} {ds : List Deferred} {S : Nat → Prop} {q : Nat} {ρ : Mp} {M : Mem} {a : Act} {w : World}

/-- on to the next operation of the text, if it is none that writes -/
theorem Inv.adv (D : DR P G nt ops l call sy sn vv) (I : Inv nt l sn vv ρ0 w0 ds S q ρ M a w) {o : ROp} (ho : l[q]? = some o) (he : isE o.op = false) : ∃ M', Inv nt l sn vv ρ0 w0 ds S (q + 1) ρ M' a w := by
  have hq : q < l.length := by
    rcases Nat.lt_or_ge q l.length with h | h
    · exact h
    · rw [List.getElem?_eq_none h] at ho; cases ho
  have heS : ∀ (i : Nat) (o : ROp), l[i]? = some o → isE o.op = true → (S i ↔ i < q + 1) := fun i o' hi hei => by
    rw [I.eS i o' hi hei]
    have : i ≠ q := fun e => by subst e; rw [ho] at hi; cases hi; rw [he] at hei; cases hei
    omega
  have hsame : (sn (q + 1)).ms.mem = (sn q).ms.mem → ¬ Made l sn q → Inv nt l sn vv ρ0 w0 ds S (q + 1) ρ M a w := fun hm hnm => by
    refine { I with q_le := hq, eS := heS, up := ?_, down := ?_, pend := ?_, late := ?_ }
    · rw [hm]; exact I.up
    · intro id s hs
      rcases I.down id s hs with h | ⟨j, h1, h2, h3, h4, h5⟩
      · left; rw [hm]; exact h
      · right
        have : j ≠ q := fun e => hnm (e ▸ h4)
        exact ⟨j, by omega, h2, h3, h4, h5⟩
    · exact fun j h1 h2 h3 h4 => I.pend j (by omega) h2 h3 h4
    · intro j h1 h2 h3
      have : j ≠ q := fun e => hnm (e ▸ h3)
      rw [hm]; exact I.late j (by omega) h2 h3
  cases ha : isA o.op with
  | false =>
    obtain ⟨h1, h2⟩ := D.plain ho he ha
    exact ⟨M, hsame h1 fun hm => by have := hm.2; omega⟩
  | true =>
    rcases D.make ho ha with ⟨h1, h2⟩ | ⟨ob, hob, h1, h2⟩
    · exact ⟨M, hsame h1 fun hm => by have := hm.2; omega⟩
    · have hmade : Made l sn q := ⟨⟨o, ho, ha⟩, by omega⟩
      have hget : ∀ id, (sn (q + 1)).ms.mem.get id = if id = (sn q).ms.n then some ⟨ob, (sn q).ms.n, true⟩ else (sn q).ms.mem.get id := fun id => by rw [h1, T.get_set]
      by_cases hS : S q
      · refine ⟨M, { I with q_le := hq, eS := heS, up := ?_, down := ?_, pend := ?_, late := ?_ }⟩
        · intro id s hs
          rw [hget] at hs
          split at hs
          · rename_i hid; subst hid
            obtain ⟨s', e1, e2⟩ := I.pend q (Nat.le_refl _) hq hS hmade
            rw [hget, if_pos rfl] at e2
            rw [hs] at e2; cases e2; exact e1
          · exact I.up id s hs
        · intro id s hs
          rcases I.down id s hs with h | ⟨j, h3, h4, h5, h6, h7, h8⟩
          · left
            rw [hget, if_neg]
            · exact h
            · intro e; subst e
              rw [D.bdk (Nat.le_of_lt hq) _ (Nat.le_refl _)] at h; cases h
          · by_cases hj : j = q
            · subst hj; left; exact h8
            · exact .inr ⟨j, by omega, h4, h5, h6, h7, h8⟩
        · exact fun j h3 h4 h5 h6 => I.pend j (by omega) h4 h5 h6
        · intro j h3 h4 h5
          have hjq : j ≠ q := fun e => h4 (e ▸ hS)
          rw [hget, if_neg]
          · exact I.late j (by omega) h4 h5
          · have := D.le (i := j + 1) (j := q) (by omega) (Nat.le_of_lt hq)
            have := h5.2
            omega
      · have hfree := I.free q hq hS (sn q).ms.n (Nat.le_refl _) (by omega)
        let M' : Mem := M.put (sn q).ms.n ⟨ob, (sn q).ms.n, true⟩
        have hM' : ∀ id, id ≠ (sn q).ms.n → M' id = M id := fun id h => by simp [M', Mem.put, h]
        have hMn : M' (sn q).ms.n = some ⟨ob, (sn q).ms.n, true⟩ := by simp [M', Mem.put]
        have hmap : ∀ id e, ρ id = some e → id ≠ (sn q).ms.n := fun id e he h => by subst h; rw [hfree] at he; cases he
        refine ⟨M', { I with q_le := hq, eS := heS, up := ?_, down := ?_, pend := ?_, late := ?_, sim := ?_, own := ?_, off := ?_ }⟩
        · refine ⟨fun id e s he' hs => ?_, fun id id' e e' h3 h4 h5 h6 h7 => ?_, I.sim.lt, I.sim.old, I.sim.sz, fun id e s h1 h2 h3 h4 => I.sim.hi id e s h1 (by rw [hM' id (hmap id e h1)] at h2; exact h2) h3 h4⟩
          · rw [hM' id (hmap id e he')] at hs
            exact I.sim.rel id e s he' hs
          · refine I.sim.inj id id' e e' h3 h4 h5 (fun s hs => h6 s ?_) (fun s hs => h7 s ?_)
            · rw [hM' id (hmap id e h3)]; exact hs
            · rw [hM' id' (hmap id' e' h4)]; exact hs
        · intro id s hs
          rw [hget] at hs
          split at hs
          · rename_i hid; subst hid; cases hs; exact hMn
          · rename_i hid; rw [hM' id hid]; exact I.up id s hs
        · intro id s hs
          by_cases hid : id = (sn q).ms.n
          · subst hid; left; rw [hget, if_pos rfl]; rw [hMn] at hs; exact hs
          · rw [hM' id hid] at hs
            rcases I.down id s hs with h | ⟨j, h3, h4, h5, h6, h7, h8⟩
            · left; rw [hget, if_neg hid]; exact h
            · have : j ≠ q := fun e => hS (e ▸ h5)
              exact .inr ⟨j, by omega, h4, h5, h6, h7, h8⟩
        · intro j h3 h4 h5 h6
          have := D.le (i := q + 1) (j := j) (by omega) (by omega)
          rw [hM' _ (by omega)]
          exact I.pend j (by omega) h4 h5 h6
        · intro j h3 h4 h5
          by_cases hjq : j = q
          · subst hjq; rfl
          · rw [hget, if_neg]
            · exact I.late j (by omega) h4 h5
            · have := D.le (i := j + 1) (j := q) (by omega) (Nat.le_of_lt hq)
              have := h5.2
              omega
        · intro b hb ⟨id, e, s, h3, h4, h5, h6, h7⟩
          rw [hM' id (hmap id e h3)] at h5
          exact I.own b hb ⟨id, e, s, h3, h4, h5, h6, h7⟩
        · intro id h3 h4
          have g1 := D.le (i := 0) (j := q) (by omega) (Nat.le_of_lt hq)
          have g2 := D.le (i := q + 1) (j := l.length) (by omega) (Nat.le_refl _)
          rw [hM' id (by omega)]; exact I.off id h3 h4
theorem Inv.advTo (D : DR P G nt ops l call sy sn vv) : ∀ (d : Nat) {q : Nat} {M : Mem}, Inv nt l sn vv ρ0 w0 ds S q ρ M a w → q + d ≤ l.length → (∀ (i : Nat) (o : ROp), q ≤ i → i < q + d → l[i]? = some o → isE o.op = false) →
    ∃ M', Inv nt l sn vv ρ0 w0 ds S (q + d) ρ M' a w
  | 0, q, M, I, _, _ => ⟨M, I⟩
  | d + 1, q, M, I, hle, hE => by
    obtain ⟨o, _, ho, _⟩ := D.get (k := q) (by omega)
    obtain ⟨M1, I1⟩ := I.adv D ho (hE q o (Nat.le_refl _) (by omega) ho)
    obtain ⟨M2, I2⟩ := Inv.advTo D d I1 (by omega) (fun i o' h1 h2 h3 => hE i o' (by omega) (by omega) h3)
    have e : q + 1 + d = q + (d + 1) := by omega
    rw [e] at I2; exact ⟨M2, I2⟩
end
end Ev
end Go.Proofs.YtakgohocimlagaaGreat
