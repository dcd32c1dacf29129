/-
  An evaluator over plain data (21): the program's own functions as the table; a law without arguments, evaluated. Of no program. No condition.
-/
import Derived.Test.YtakgohocimlagaaGreatEvT
import Derived.KernelRfl
import Derived.Below
namespace Go.Proofs.YtakgohocimlagaaGreat
namespace Ev
variable [E : Inhabited EnvT]
open Go.RowKit
set_option linter.unusedVariables false
set_option linter.unusedSectionVars false
set_option linter.unusedSimpArgs false

theorem compF_x {P : Program} {G : Nat → Option Nat} {mask : Nat} {fn : Func} {cf : CF} (h : compF P G mask fn = some cf) : cf.x = none := by
  unfold compF at h
  split at h <;> (try (cases h; done))
  split at h <;> (try (cases h; done))
  split at h <;> cases h
  rfl
/-- the program's functions, compiled as they are asked for -/
def fof (P : Program) (G : Nat → Option Nat) : Nat → Option CF := fun f => match P.funcs[f]? with
  | some fn => compF P G (Nat.sub (Nat.shiftLeft 1 fn.ntmps) 1) fn
  | none => none
theorem fof_ok (P : Program) (G : Nat → Option Nat) : FOk P G (fof P G) := fun f cf h => by
  unfold fof at h
  split at h
  · rename_i fn hfn; exact .inl ⟨compF_x h, fn, _, hfn, h⟩
  · cases h
def noG : Nat → Option Nat := fun _ => none
/-- the law without arguments is evaluated to true -/
def isTrue (s : MS) (b : Bool) : Prop := match b with
  | true => s.ok
  | false => False
def isTrueV (s : MS) (v : AV) : Prop := match v with
  | .bool b => isTrue s b
  | _ => False
def isTrueR (r : Option (AV × MS)) : Prop := match r with
  | some (v, s) => isTrueV s v
  | none => False
def xlk : List (Nat × XK) → Nat → Option XK
  | [], _ => none
  | (k, x) :: r, f => match Nat.beq k f with
    | true => some x
    | false => xlk r f
def fofX (P : Program) (G : Nat → Option Nat) (X : List (Nat × XK)) : Nat → Option CF := fun f => match xlk X f with
  | some k => match k with
    | .tab l => match fof P G f with
      | some cf => some { cf with x := some (.tab l) }
      | none => none
    | k => some ⟨0, .skip, [], 0, some k⟩
  | none => fof P G f
theorem fofX_ok {P : Program} {G : Nat → Option Nat} {X : List (Nat × XK)} (h : ∀ f k, xlk X f = some k → XGood P G f k) : FOk P G (fofX P G X) := fun f cf hcf => by
  unfold fofX at hcf
  split at hcf
  · rename_i k hk
    split at hcf
    · rename_i l
      split at hcf <;> cases hcf
      rename_i cf0 hf0
      refine .inr (.inr ⟨l, rfl, h f _ hk, ?_⟩)
      unfold fof at hf0
      split at hf0
      · rename_i fn hfn
        refine ⟨fn, Nat.sub (Nat.shiftLeft 1 fn.ntmps) 1, hfn, ?_⟩
        rw [hf0]
        have := compF_x hf0
        obtain ⟨a1, a2, a3, a4, a5⟩ := cf0
        simp only at this
        subst this
        rfl
      · cases hf0
    · rename_i k' hnt
      cases hcf
      exact .inr (.inl ⟨k, rfl, fun l e => hnt l e, h f k hk⟩)
  · unfold fof at hcf
    split at hcf
    · rename_i fn hfn; exact .inl ⟨compF_x hcf, fn, _, hfn, hcf⟩
    · cases hcf

theorem Step.below {ρ : Mp} {m : Mem} {n : Nat} {w w' : World} (hs : Sim ρ m w) (hb : Below w.heap.size w w') : Step ρ m n w ρ m n w' where
  ext := Ext.refl _
  new := fun _ _ h => .inl h
  sim := ⟨fun id e s he hm => by
    obtain ⟨x, hx, hr⟩ := hs.rel id e s he hm
    exact ⟨x, by rw [hb.block _ (hs.lt id e he), hx], hr⟩, hs.inj, fun id e he => Nat.lt_of_lt_of_le (hs.lt id e he) hb.size, fun b h => by rw [hb.block _ (Nat.lt_of_lt_of_le h hs.sz)]; exact hs.old b h, Nat.le_trans hs.sz hb.size, hs.hi⟩
  size := hb.size
  frame := fun b hb' _ => hb.block b hb'
  own := fun b _ h => h
  off := fun _ _ _ => rfl
  le := Nat.le_refl _
  rest := ⟨hb.os, hb.tape, hb.output⟩
/-- the value of a scalar, of a row of scalars, that hangs on no memory -/
def valA (a : AV) : Option Value := match a with
  | .bool b => some (.bool b)
  | .int k n => some (.int k n)
  | .sx k e => some (.int k (e.den E.default.i))
  | .ov i => some (E.default.v i)
  | .nils => some (.slice none 0 0)
  | .nilp => some (.pointer none)
  | _ => none
theorem valA_R {ρ : Mp} {a : AV} {V V' : Value} (h : valA a = some V') (hR : R ρ a V) : V = V' := by
  cases a <;> simp only [valA, Option.some.injEq, reduceCtorEq] at h <;> subst h <;> cases hR <;> rfl
def valL : List AV → Option (List Value)
  | [] => some []
  | a :: r => match valA a, valL r with
    | some v, some l => some (v :: l)
    | _, _ => none
theorem valL_R {ρ : Mp} : ∀ {a : List AV} {V V' : List Value}, valL a = some V' → Rs ρ a V → V = V'
  | [], _, _, h, hR => by cases hR; cases h; rfl
  | a :: r, _, _, h, hR => by
    cases hR with
    | cons h1 h2 =>
      simp only [valL] at h
      split at h <;> cases h
      rename_i v l ha hl
      rw [valA_R ha h1, valL_R hl h2]
def valT (a : AV) : Option Value := match a with
  | .agg cs => match valL cs with
    | some l => some (.agg ⟨l⟩)
    | none => none
  | a => valA a
theorem valT_R {ρ : Mp} {a : AV} {V V' : Value} (h : valT a = some V') (hR : R ρ a V) : V = V' := by
  unfold valT at h
  split at h
  · split at h <;> cases h
    rename_i l hl
    cases hR with
    | agg hc => rw [valL_R hl hc]
  · exact valA_R h hR
def valTs : List AV → Option (List Value)
  | [] => some []
  | a :: r => match valT a, valTs r with
    | some v, some l => some (v :: l)
    | _, _ => none
theorem valTs_R {ρ : Mp} : ∀ {a : List AV} {V V' : List Value}, valTs a = some V' → Rs ρ a V → V = V'
  | [], _, _, h, hR => by cases hR; cases h; rfl
  | a :: r, _, _, h, hR => by
    cases hR with
    | cons h1 h2 =>
      simp only [valTs] at h
      split at h <;> cases h
      rename_i v l ha hl
      rw [valT_R ha h1, valTs_R hl h2]
/-- a known call, of arguments that hang on no memory -/
theorem tab_one {P : Program} {f : FuncId} {a : List AV} {v : AV} {As : List Value} {Va : Value} (ha : valTs a = some As) (hv : ∀ ρ, R ρ v Va) {ρ : Mp} {Vs : List Value} {w : World} (hR : Rs ρ a Vs)
    (hc : Calls P f ⟨As⟩ w fun e w' => e = .returned Va ∧ Below w.heap.size w w') : Calls P f ⟨Vs⟩ w fun e w' => ∃ V, e = .returned V ∧ R ρ v V ∧ Below w.heap.size w w' := by
  rw [valTs_R ha hR]
  exact hc.mono fun e w' ⟨h1, h2⟩ => ⟨Va, h1, hv ρ, h2⟩
/-- a table of calls that are known holds -/
theorem tab_good {P : Program} {G : Nat → Option Nat} {f : FuncId} {l : List (List AV × AV)} (hent : ∀ args w, (callFunc f args).run P w = .ok (.enter f args) w)
    (h : ∀ a v, (a, v) ∈ l → ∀ (ρ : Mp) (Vs : List Value) (w : World), Rs ρ a Vs → (∀ b, b < E.default.base → w.heap[b]? = E.default.h0 b) → E.default.base ≤ w.heap.size →
      Calls P f ⟨Vs⟩ w fun e w' => ∃ V, e = .returned V ∧ R ρ v V ∧ Below w.heap.size w w') : XGood P G f (.tab l) := by
  intro vs s v s' hx _ ρ Vs w _ hR hS _ _
  simp only [execX] at hx
  obtain ⟨hf, rfl⟩ : findT vs l = some v ∧ s = s' := by
    split at hx
    · rename_i u hu; simp only [Option.some.injEq, Prod.mk.injEq] at hx; rw [hu, hx.1]; exact ⟨rfl, hx.2⟩
    · cases hx
  refine ⟨hent _, (h vs v (findT_mem hf) ρ Vs w hR hS.old hS.sz).mono fun e w' ⟨V, he, hV, hb⟩ => ⟨V, he, ρ, hV, Step.below hS hb⟩⟩
noncomputable def lawSymX (P : Program) (X : List (Nat × XK)) (n : Nat) (f : FuncId) (vs : List AV) : Prop := isTrueR (Fa.call (fofX P noG X) n f vs .e 0)
theorem lawSymX_calls {P : Program} {X : List (Nat × XK)} {n : Nat} {f : FuncId} {vs : List AV} {Vs : List Value} (hX : ∀ f k, xlk X f = some k → XGood P noG f k) (h : lawSymX P X n f vs = True) (hV : Rs (fun _ => none) vs Vs) (w : World) (ho : ∀ b, b < E.default.base → w.heap[b]? = E.default.h0 b) (hb : E.default.base ≤ w.heap.size) : Calls P f ⟨Vs⟩ w fun e w' => e = .returned (.bool true) ∧ Below w.heap.size w w' := by
  have h' : lawSymX P X n f vs := by rw [h]; trivial
  unfold lawSymX at h'
  rw [Fa.call_eq] at h'
  unfold isTrueR at h'
  split at h' <;> (try exact h'.elim)
  rename_i v s hev
  unfold isTrueV at h'
  split at h' <;> (try exact h'.elim)
  rename_i b
  unfold isTrue at h'
  split at h' <;> (try exact h'.elim)
  have hS : Sim (fun _ => none) (T.e : T Slot).get w := ⟨fun id e s h => (by cases h), fun id id' e e' h => (by cases h), fun id e h => (by cases h), ho, hb, fun id e s h => (by cases h)⟩
  have hc := evCall_ok (G := noG) (fofX_ok hX) hev h' (ρ := fun _ => none) (Vs := Vs) (w := w) (fun g id h => (by cases h)) hV hS (fun _ _ => rfl) (fun _ _ => rfl)
  refine Calls.mono hc fun e w' ⟨V, he, ρ', hR, hst⟩ => ?_
  cases hR
  refine ⟨he, ?_⟩
  exact ⟨hst.rest.1, hst.rest.2.1, hst.rest.2.2, hst.size, fun b hb => hst.frame b hb fun ⟨id, e, s, h, _⟩ => (by cases h)⟩
noncomputable def lawSym (P : Program) (n : Nat) (f : FuncId) (vs : List AV) : Prop := isTrueR (Fa.call (fof P noG) n f vs .e 0)
/-- A law evaluated at letters: it returns true at their numbers. -/
theorem lawSym_calls {P : Program} {n : Nat} {f : FuncId} {vs : List AV} {Vs : List Value} (h : lawSym P n f vs = True) (hV : Rs (fun _ => none) vs Vs) (w : World) (ho : ∀ b, b < E.default.base → w.heap[b]? = E.default.h0 b) (hb : E.default.base ≤ w.heap.size) : Calls P f ⟨Vs⟩ w fun e w' => e = .returned (.bool true) ∧ Below w.heap.size w w' := by
  have h' : lawSym P n f vs := by rw [h]; trivial
  unfold lawSym at h'
  rw [Fa.call_eq] at h'
  unfold isTrueR at h'
  split at h' <;> (try exact h'.elim)
  rename_i v s hev
  unfold isTrueV at h'
  split at h' <;> (try exact h'.elim)
  rename_i b
  unfold isTrue at h'
  split at h' <;> (try exact h'.elim)
  have hS : Sim (fun _ => none) (T.e : T Slot).get w := ⟨fun id e s h => (by cases h), fun id id' e e' h => (by cases h), fun id e h => (by cases h), ho, hb, fun id e s h => (by cases h)⟩
  have hc := evCall_ok (G := noG) (fof_ok P noG) hev h' (ρ := fun _ => none) (Vs := Vs) (w := w) (fun g id h => (by cases h)) hV hS (fun _ _ => rfl) (fun _ _ => rfl)
  refine Calls.mono hc fun e w' ⟨V, he, ρ', hR, hst⟩ => ?_
  cases hR
  refine ⟨he, ?_⟩
  exact ⟨hst.rest.1, hst.rest.2.1, hst.rest.2.2, hst.size, fun b hb => hst.frame b hb fun ⟨id, e, s, h, _⟩ => (by cases h)⟩
end Ev
namespace Ev
open Go.RowKit
/-- no letters -/
def noI (_ : Nat) : Int := 0
abbrev noE : Inhabited EnvT := ⟨⟨noI, fun _ => .bool false, [], fun f h => (by cases h), fun _ => ⟨rfl, rfl⟩, 0, fun _ => none⟩⟩
noncomputable def lawTrue (P : Program) (n : Nat) (f : FuncId) : Prop := @lawSym noE P n f []
theorem lawTrue_calls {P : Program} {n : Nat} {f : FuncId} (h : lawTrue P n f = True) (w : World) : Calls P f #[] w fun e w' => e = .returned (.bool true) ∧ Below w.heap.size w w' :=
  @lawSym_calls noE P n f [] [] h (@Rs.nil noE _) w (fun b hb => absurd hb (Nat.not_lt_zero b)) (Nat.zero_le _)
end Ev
end Go.Proofs.YtakgohocimlagaaGreat
