/-
  An evaluator over plain data (13): an operation, and a region in the order of its text: what the evaluation gives is what the model does. Of no program. No condition.
-/
import Derived.Test.YtakgohocimlagaaGreatEvL
namespace Go.Proofs.YtakgohocimlagaaGreat
namespace Ev
variable [E : Inhabited EnvT]
set_option linter.unusedVariables false
set_option linter.unusedSectionVars false
set_option linter.unusedSimpArgs false
open Go.RowKit Go.IntWalk

/-! ### what the evaluation keeps -/
structure EvoS (s s' : MS) : Prop where
  evo : Evo s.mem.get s.n s'.mem.get s'.n
  ok : s'.ok → s.ok
theorem EvoS.refl (s : MS) : EvoS s s := ⟨Evo.refl _ _, fun h => h⟩
theorem EvoS.trans {a b c : MS} (h : EvoS a b) (h' : EvoS b c) : EvoS a c := ⟨h.evo.trans h'.evo, fun x => h.ok (h'.ok x)⟩
theorem evo_old {m : T Slot} {n id : Nat} {s : Slot} {o : AO} {mu : Bool} (h : m.get id = some s) : Evo m.get n (m.set id ⟨o, n, mu⟩).get (n + 1) := by
  refine ⟨by omega, fun i => ?_, fun hb i hi => ?_⟩
  · rw [T.get_set]; split
    · exact .inr ⟨_, rfl, Nat.le_refl _⟩
    · exact .inl rfl
  · rw [T.get_set]; split
    · rename_i he; subst he; rw [hb i (by omega)] at h; cases h
    · exact hb i (by omega)
theorem evo_new {m : T Slot} {n : Nat} {o : AO} {mu : Bool} : Evo m.get n (m.set n ⟨o, n, mu⟩).get (n + 1) := by
  refine ⟨by omega, fun i => ?_, fun hb i hi => ?_⟩
  · rw [T.get_set]; split
    · exact .inr ⟨_, rfl, Nat.le_refl _⟩
    · exact .inl rfl
  · rw [T.get_set]; split
    · omega
    · exact hb i (by omega)
theorem execApp1_evo {z bytes : Nat} {s : AV} {xs : List AV} {k : Nat} {m m' : T Slot} {n n' : Nat} {v : AV} {r : Bool} (h : execApp1 z bytes s xs k m n = some (v, m', n', r)) : Evo m.get n m'.get n' := by
  unfold execApp1 at h
  split at h
  · split at h <;> cases h
    · exact Evo.refl _ _
    · exact evo_new
  · split at h
    · cases h; exact Evo.refl _ _
    · split at h <;> (try (cases h; done))
      rename_i cs ext st mu hm
      split at h <;> (try (cases h; done))
      split at h
      · split at h
        · split at h <;> cases h
          exact evo_old hm
        · cases h; exact evo_new
      · split at h <;> (try (cases h; done))
        split at h <;> cases h
        · exact evo_old hm
        · exact (evo_old hm).trans evo_new
  · cases h
theorem execE_evo {k : EK} {vs : List AV} {m m' : T Slot} {n n' : Nat} {v : AV} {r : Bool} (h : execE k vs m n = some (v, m', n', r)) : Evo m.get n m'.get n' := by
  unfold execE at h
  split at h
  · split at h <;> (try (cases h; done))
    rename_i hm
    split at h <;> (try (cases h; done))
    rw [fL_eq] at h; cases h; exact evo_old hm
  · unfold execApp at h
    split at h <;> (try (cases h; done))
    split at h <;> (try (cases h; done))
    rename_i hx
    cases h; exact execApp1_evo hx
  · split at h <;> cases h; exact Evo.refl _ _
  · split at h <;> (try (cases h; done))
    split at h
    · cases h; exact Evo.refl _ _
    · split at h <;> (try (cases h; done))
      rename_i hm
      split at h <;> (try (cases h; done))
      rw [fL_eq] at h; cases h; exact evo_old hm
  · split at h <;> (try (cases h; done))
    rename_i hm
    split at h <;> (try (cases h; done)) <;> (rw [fL_eq] at h; cases h; exact evo_old hm)
  · split at h <;> (try (cases h; done))
    rename_i hm
    split at h <;> (try (cases h; done))
    · rw [fL_eq] at h; cases h; exact evo_old hm
    · cases h; exact Evo.refl _ _
  · cases h; exact Evo.refl _ _
  · cases h

theorem dec_some {β : Type} {sy b : Bool} {s : MS} {K : Bool → MS → Option β} {r : β} (h : dec sy b s K = some r) :
    ∃ b' s1, K b' s1 = some r ∧ s1.mem = s.mem ∧ s1.n = s.n ∧ (s1.ok → s.ok ∧ b = b') := by
  unfold dec at h
  split at h
  · split at h
    · exact ⟨_, _, h, rfl, rfl, fun x => ⟨x, rfl⟩⟩
    · exact ⟨_, _, h, rfl, rfl, fun x => ⟨x, rfl⟩⟩
  · split at h
    · exact ⟨_, _, h, rfl, rfl, fun x => ⟨x, rfl⟩⟩
    · exact ⟨_, _, h, rfl, rfl, fun x => x⟩
    · exact ⟨_, _, h, rfl, rfl, fun x => ⟨x, rfl⟩⟩
theorem chk_some {β : Type} {sy q : Bool} {s : MS} {K : MS → Option β} {r : β} (h : chk sy q s K = some r) :
    ∃ s1, K s1 = some r ∧ s1.mem = s.mem ∧ s1.n = s.n ∧ (s1.ok → s.ok ∧ q = true) := by
  unfold chk at h
  split at h
  · split at h
    · exact ⟨_, h, rfl, rfl, fun x => ⟨x, rfl⟩⟩
    · cases h
  · exact ⟨_, h, rfl, rfl, fun x => x⟩
/-- what a guard says, of the temporaries -/
def GuardB (tm : TM) (g : Option (Nat × Bool)) (b : Bool) : Prop := match g with
  | none => b = true
  | some (t, w) => (∃ c, tm.get t = some (.bool c) ∧ b = (c == w)) ∨ (b = false ∧ ∃ l, tm.get t = some (.tup l))
theorem want_some {β : Type} {sy : Bool} {g : Option (Nat × Bool)} {tm : TM} {s : MS} {K : Bool → MS → Option β} {r : β} (h : want sy g tm s K = some r) :
    ∃ b s1, K b s1 = some r ∧ s1.mem = s.mem ∧ s1.n = s.n ∧ (s1.ok → s.ok ∧ GuardB tm g b) := by
  cases g with
  | none => exact ⟨_, _, h, rfl, rfl, fun x => ⟨x, rfl⟩⟩
  | some p =>
    obtain ⟨t, w⟩ := p
    simp only [want] at h
    split at h
    · rename_i c ht
      obtain ⟨b', s1, hK, h1, h2, h3⟩ := dec_some h
      cases b' <;> cases w <;> exact ⟨_, _, hK, h1, h2, fun x => ⟨(h3 x).1, .inl ⟨c, ht, by rw [(h3 x).2]; rfl⟩⟩⟩
    · rename_i l ht
      exact ⟨_, _, h, rfl, rfl, fun x => ⟨x, .inr ⟨rfl, l, ht⟩⟩⟩
    · cases h

/-! ### what an operation does, in the model -/
def Does (P : Program) (r : Result Next) (K : Value → World → Prop) : Prop := match r with
  | .ok (.value v) w => K v w
  | .ok .skip w => K undef w
  | .ok (.enter f args) w => Calls P f args w fun e w' => ∃ v, e = .returned v ∧ K v w'
  | _ => False
theorem Does.mono {P : Program} {r : Result Next} {K K' : Value → World → Prop} (h : Does P r K) (hk : ∀ v w, K v w → K' v w) : Does P r K' := by
  unfold Does at *
  split
  · exact hk _ _ h
  · exact hk _ _ h
  · exact Calls.mono h fun e w ⟨v, hv, hK⟩ => ⟨v, hv, hk _ _ hK⟩
  · rename_i h1 h2 h3
    split at h
    · exact absurd rfl (h1 _ _)
    · exact absurd rfl (h2 _)
    · exact absurd rfl (h3 _ _ _)
    · exact h
theorem Does.upon {P : Program} {o : Oper} {a : Act} {next : Act → World → Prop} {Q : Exit → Act → World → Prop} {r : Result Next} {K : Value → World → Prop} (h : Does P r K)
    (hk : ∀ v w, K v w → next (a.put o.dst v) w) : o.upon P a next Q r := by
  unfold Does at h
  split at h
  · exact hk _ _ h
  · exact hk _ _ h
  · rw [Oper.upon_enter]
    refine Calls.mono h fun e w ⟨v, hv, hK⟩ => ?_
    subst hv; exact hk _ _ hK
  · exact h.elim

/-- a range of numbers that no object has yet -/
def Free (ρ : Mp) (n n' : Nat) : Prop := ∀ id, n ≤ id → id < n' → ρ id = none

/-- no object beyond the count -/
def Bd (s : MS) : Prop := ∀ id, s.n ≤ id → s.mem.get id = none
theorem EvoS.bd {s s' : MS} (h : EvoS s s') (hb : Bd s) : Bd s' := h.evo.bound hb
/-- what a call's evaluation is worth -/
structure CallOk (P : Program) (G : Nat → Option Nat) (call : CallF) : Prop where
  evo : ∀ f vs s v s', call f vs s = some (v, s') → EvoS s s'
  ok : ∀ f vs s v s', call f vs s = some (v, s') → s'.ok → ∀ (ρ : Mp) (Vs : List Value) (w : World), GOk G ρ → Rs ρ vs Vs → Sim ρ s.mem.get w → Free ρ s.n s'.n → Bd s →
    (∀ w, (callFunc f ⟨Vs⟩).run P w = .ok (.enter f ⟨Vs⟩) w) ∧
    Calls P f ⟨Vs⟩ w fun e w' => ∃ V, e = .returned V ∧ ∃ ρ', R ρ' v V ∧ Step ρ s.mem.get s.n w ρ' s'.mem.get s'.n w'

theorem execV_evo {P : Program} {G : Nat → Option Nat} {call : CallF} (hC : CallOk P G call) {sy : Bool} {o : RO} {tm : TM} {s s' : MS} {v : AV} (h : execV call sy o tm s = some (v, s')) : EvoS s s' := by
  unfold execV at h
  split at h
  · split at h <;> (try (cases h; done))
    split at h <;> (try (cases h; done))
    obtain ⟨s1, h1, h2, h3, h4⟩ := chk_some h
    cases h1
    exact ⟨by rw [h2, h3]; exact Evo.refl _ _, fun x => (h4 x).1⟩
  · split at h <;> (try (cases h; done))
    obtain ⟨b, s1, h1, h2, h3, h4⟩ := dec_some h
    split at h1 <;> (split at h1 <;> cases h1) <;> exact ⟨by rw [h2, h3]; exact Evo.refl _ _, fun x => (h4 x).1⟩
  · split at h <;> (try (cases h; done))
    split at h
    · split at h <;> (try (cases h; done))
      split at h <;> cases h
      exact EvoS.refl _
    · split at h <;> cases h
      exact EvoS.refl _
  · split at h <;> (try (cases h; done))
    split at h <;> (try (cases h; done))
    obtain ⟨s1, h1, h2, h3, h4⟩ := chk_some h
    cases h1
    refine ⟨?_, fun x => (h4 x).1⟩
    simp only [h2, h3]; exact evo_new
  · split at h <;> (try (cases h; done))
    split at h <;> cases h
    exact EvoS.refl _
  · split at h <;> (try (cases h; done))
    split at h <;> (try (cases h; done))
    rename_i hE
    obtain ⟨s1, h1, h2, h3, h4⟩ := chk_some h
    cases h1
    exact ⟨execE_evo hE, fun x => (h4 x).1⟩
  · split at h <;> (try (cases h; done))
    exact hC.evo _ _ _ _ _ h
  · cases h
theorem execG_evo {P : Program} {G : Nat → Option Nat} {call : CallF} (hC : CallOk P G call) {sy : Bool} {o : ROp} {tm : TM} {s s' : MS} {v : AV} (h : execG call sy o tm s = some (v, s')) : EvoS s s' := by
  unfold execG at h
  obtain ⟨b, s1, h1, h2, h3, h4⟩ := want_some h
  have h0 : EvoS s s1 := ⟨by rw [h2, h3]; exact Evo.refl _ _, fun x => (h4 x).1⟩
  cases b
  · cases h1; exact h0
  · exact h0.trans (execV_evo hC h1)
theorem exec1_some {call : CallF} {sy : Bool} {o : ROp} {tm : TM} {s : MS} {c : CS} (h : exec1 call sy o tm s = some c) : ∃ v, execG call sy o tm s = some (v, c.ms) ∧ c.tm = putT tm o.dst v := by
  unfold exec1 at h
  split at h
  · rename_i v s' hv
    simp only [fV_eq, TM.seq_eq, fS_eq, Option.some.injEq] at h
    subst h
    exact ⟨v, hv, rfl⟩
  · cases h

theorem compW_eq {G : Nat → Option Nat} {f : List CA → RO} {xs : List Operand} {ro : RO} (h : compW G f xs = ro) (hb : ro ≠ .bad) : ∃ cs, compAs G xs = some cs ∧ f cs = ro := by
  unfold compW at h
  split at h
  · exact ⟨_, by assumption, h⟩
  · exact absurd h.symm hb

/-- an operation's compiled form, read back -/
inductive Comp (P : Program) (G : Nat → Option Nat) (o : Oper) : RO → Prop
  | p {k : PK} {xs : List Operand} {cs : List CA} (h : compP P o.op = some (k, xs)) (hc : compAs G xs = some cs) : Comp P G o (.p k cs)
  | pick {c a b : Operand} {x y z : CA} (h : o.op = .pick c a b) (hc : compAs G [c, a, b] = some [x, y, z]) : Comp P G o (.pick x y z)
  | l {k : LK} {xs : List Operand} {cs : List CA} (h : compL P o.op = some (k, xs)) (hc : compAs G xs = some cs) : Comp P G o (.l k cs)
  | a {k : AK} {xs : List Operand} {cs : List CA} (h : compAK P o.op = some (k, xs)) (hc : compAs G xs = some cs) : Comp P G o (.a k cs)
  | e {k : EK} {xs : List Operand} {cs : List CA} (h : compE P o.op = some (k, xs)) (hc : compAs G xs = some cs) : Comp P G o (.e k cs)
  | call {c : Call} {f : Operand} {cs : List CA} (h : o.op = .call c) (hf : c.callee = .value f) (hc : compAs G (f :: c.args.toList) = some cs) : Comp P G o (.call cs)
  | m {s : TypeId} {x : Operand} {e e' : TypeId} {c : CA} (h : o.op = .convert s s x) (hs : P.underlying s = some (.slice e)) (he : P.underlying e = some (.int .u8)) (hc : compAs G [x] = some [c]) : Comp P G o (.m c)
  | bad : Comp P G o .bad
theorem compRO_inv (P : Program) (G : Nat → Option Nat) (o : Oper) : Comp P G o (compRO P G o) := by
  by_cases hb : compRO P G o = .bad
  · rw [hb]; exact .bad
  generalize hr : compRO P G o = ro at hb
  unfold compRO at hr
  split at hr
  · rename_i c a b hop
    obtain ⟨cs, hcs, hf⟩ := compW_eq hr hb
    split at hf
    · subst hf; exact .pick hop hcs
    · exact absurd hf.symm hb
  · split at hr
    · rename_i hk
      obtain ⟨cs, hcs, rfl⟩ := compW_eq hr hb
      exact .p hk hcs
    · split at hr
      · rename_i hk
        obtain ⟨cs, hcs, rfl⟩ := compW_eq hr hb
        exact .l hk hcs
      · split at hr
        · rename_i hk
          obtain ⟨cs, hcs, rfl⟩ := compW_eq hr hb
          exact .a hk hcs
        · split at hr
          · rename_i hk
            obtain ⟨cs, hcs, rfl⟩ := compW_eq hr hb
            exact .e hk hcs
          · split at hr
            · rename_i c hop
              split at hr
              · rename_i f hf
                obtain ⟨cs, hcs, rfl⟩ := compW_eq hr hb
                exact .call hop hf hcs
              · exact absurd hr.symm hb
            · rename_i s d x hop
              split at hr
              · rename_i e0 e hs hd
                split at hr
                · rename_i he
                  split at hr
                  · rename_i hsd
                    subst hsd
                    obtain ⟨cs, hcs, hf⟩ := compW_eq hr hb
                    split at hf
                    · subst hf
                      exact .m (e' := e) hop hd he hcs
                    · exact absurd hf.symm hb
                  · exact absurd hr.symm hb
                · exact absurd hr.symm hb
              · exact absurd hr.symm hb
            · exact absurd hr.symm hb
end Ev
end Go.Proofs.YtakgohocimlagaaGreat
