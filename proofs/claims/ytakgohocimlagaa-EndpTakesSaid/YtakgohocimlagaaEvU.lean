/-
  An evaluator over plain data (21): the program's own functions as the table; a law without arguments, evaluated. Of no program. No condition.
-/
import Derived.Test.YtakgohocimlagaaEvT
import Derived.KernelRfl
import Derived.Below
namespace Go.Proofs.Ytakgohocimlagaa
namespace Ev
open Go.RowKit
set_option linter.unusedVariables false
set_option linter.unusedSimpArgs false

theorem compF_x {P : Program} {G : Nat → Option Nat} {mask : Nat} {fn : Func} {cf : CF} (h : compF P G mask fn = some cf) : cf.x = none := by
  unfold compF at h
  split at h <;> (try (cases h; done))
  split at h <;> (try (cases h; done))
  split at h <;> cases h
  rfl
/-- the program's functions, compiled as they are asked for -/
def fof (P : Program) (G : Nat → Option Nat) : Nat → Option CF := fun f => match P.funcs[f]? with
  | some fn => compF P G (Nat.sub (Nat.shiftLeft 1 fn.ntmps) 1) fn
  | none => none
theorem fof_ok (P : Program) (G : Nat → Option Nat) : FOk P G (fof P G) := fun f cf h => by
  unfold fof at h
  split at h
  · rename_i fn hfn; exact .inl ⟨compF_x h, fn, _, hfn, h⟩
  · cases h
def noG : Nat → Option Nat := fun _ => none
/-- the law without arguments is evaluated to true -/
def isTrue (s : MS) (b : Bool) : Prop := match b with
  | true => s.ok
  | false => False
def isTrueV (s : MS) (v : AV) : Prop := match v with
  | .bool b => isTrue s b
  | _ => False
def isTrueR (r : Option (AV × MS)) : Prop := match r with
  | some (v, s) => isTrueV s v
  | none => False
noncomputable def lawTrue (P : Program) (n : Nat) (f : FuncId) : Prop := isTrueR (Fa.call (fof P noG) n f [] .e 0)
theorem lawTrue_calls {P : Program} {n : Nat} {f : FuncId} (h : lawTrue P n f = True) (w : World) : Calls P f #[] w fun e w' => e = .returned (.bool true) ∧ Below w.heap.size w w' := by
  have h' : lawTrue P n f := by rw [h]; trivial
  unfold lawTrue at h'
  rw [Fa.call_eq] at h'
  unfold isTrueR at h'
  split at h' <;> (try exact h'.elim)
  rename_i v s hev
  unfold isTrueV at h'
  split at h' <;> (try exact h'.elim)
  rename_i b
  unfold isTrue at h'
  split at h' <;> (try exact h'.elim)
  have hS : Sim (fun _ => none) (T.e : T Slot).get w := ⟨fun id e s h => (by cases h), fun id id' e e' h => (by cases h), fun id e h => (by cases h)⟩
  have hc := evCall_ok (G := noG) (fof_ok P noG) hev h' (ρ := fun _ => none) (Vs := []) (w := w) (fun g id h => (by cases h)) .nil hS (fun _ _ => rfl) (fun _ _ => rfl)
  refine Calls.mono hc fun e w' ⟨V, he, ρ', hR, hst⟩ => ?_
  cases hR
  refine ⟨he, ?_⟩
  exact ⟨hst.rest.1, hst.rest.2.1, hst.rest.2.2, hst.size, fun b hb => hst.frame b hb fun ⟨id, e, s, h, _⟩ => (by cases h)⟩
end Ev
end Go.Proofs.Ytakgohocimlagaa
