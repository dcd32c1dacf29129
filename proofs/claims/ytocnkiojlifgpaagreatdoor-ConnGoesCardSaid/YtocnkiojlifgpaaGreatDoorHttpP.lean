/-
  The plain law of http.Look: what any bytes are told to be, as a row of small readings; what it has told it tells of any longer bytes; where it ends. No condition.
-/
import Derived.Test.YtocnkiojlifgpaaGreatDoorFoldP
import Derived.Lib.Fold
namespace Go.Proofs.YtocnkiojlifgpaaGreatDoor
open Go.Lib
set_option linter.unusedVariables false
set_option linter.unusedSimpArgs false

abbrev RH (α : Type) := Except Int (α × List UInt8)
def bindH {α β : Type} (x : RH α) (f : α → List UInt8 → RH β) : RH β := match x with
  | .error k => .error k
  | .ok (a, r) => f a r
theorem bindH_ok {α β : Type} {a : α} {r : List UInt8} {f : α → List UInt8 → RH β} : bindH (.ok (a, r)) f = f a r := rfl
theorem bindH_err {α β : Type} {k : Int} {f : α → List UInt8 → RH β} : bindH (.error k : RH α) f = .error k := rfl

def capB (c : UInt8) : Bool := decide (65 ≤ c.toNat) && decide (c.toNat ≤ 90)
def digB (c : UInt8) : Bool := decide (48 ≤ c.toNat) && decide (c.toNat ≤ 57)
def smallB (c : UInt8) : Bool := decide (97 ≤ c.toNat) && decide (c.toNat ≤ 122)
def blankB (c : UInt8) : Bool := decide (c.toNat = 32) || decide (c.toNat = 9)
def seenB (c : UInt8) : Bool := decide (32 < c.toNat) && decide (c.toNat < 127)
def shownB (c : UInt8) : Bool := blankB c || seenB c || decide (128 ≤ c.toNat)
def marksL : List UInt8 := [33, 35, 36, 37, 38, 39, 42, 43, 45, 46, 94, 95, 96, 124, 126]
def wordB (c : UInt8) : Bool := capB c || smallB c || digB c || marksL.contains c
def hostB (c : UInt8) : Bool := capB c || smallB c || digB c || decide (c.toNat = 45) || decide (c.toNat = 95) || decide (c.toNat = 46)

def nextH (p : UInt8 → Bool) : List UInt8 → RH UInt8
  | [] => .error 0
  | c :: l => if p c then .ok (c, l) else .error 3
def peekH : List UInt8 → RH UInt8
  | [] => .error 0
  | c :: l => .ok (c, c :: l)
def textH : List UInt8 → List UInt8 → RH Unit
  | [], l => .ok ((), l)
  | s :: t, l => bindH (nextH (· == s) l) fun _ r => textH t r
def runH (p : UInt8 → Bool) : List UInt8 → RH (List UInt8)
  | [] => .error 0
  | c :: l => if p c then bindH (runH p l) fun x r => .ok (c :: x, r) else .ok ([], c :: l)
def dotE (name : List UInt8) : Bool := name.isEmpty || hasSuffix name [46]
def nameH (name : List UInt8) : List UInt8 → RH (List UInt8)
  | [] => .error 0
  | c :: l => if hostB c then (if c = 46 ∧ (dotE name = true ∨ name.length = 252) ∨ 253 ≤ name.length then .error 3 else nameH (name ++ [c]) l) else if dotE name then .error 3 else .ok (name, c :: l)
def portH (n many : Nat) : List UInt8 → RH Unit
  | [] => .error 0
  | c :: l => if digB c then (if 5 ≤ many ∨ 65535 < 10 * n + (c.toNat - 48) then .error 3 else portH (10 * n + (c.toNat - 48)) (many + 1) l) else .ok ((), c :: l)
def foldN (name : List UInt8) : List UInt8 := (foldA name).getD []
def authH (l : List UInt8) : RH (List UInt8) :=
  bindH (nameH [] l) fun name r => bindH (peekH r) fun c r => if c = 58 then bindH (nextH (· == 58) r) fun _ r => bindH (nextH digB r) fun d r => bindH (portH (d.toNat - 48) 1 r) fun _ r => .ok (foldN name, r) else .ok (foldN name, r)
def methodH (many : Nat) : List UInt8 → RH Unit
  | [] => .error 0
  | c :: l => if c = 32 then .ok ((), c :: l) else if 16 ≤ many then .error 3 else if capB c then methodH (many + 1) l else .error 3
def starB (c : UInt8) : Bool := decide (c.toNat = 42) || decide (c.toNat = 47) || decide (c.toNat = 104)
def targetH (l : List UInt8) : RH (Option (List UInt8)) :=
  bindH (nextH starB l) fun c r => if c = 47 then bindH (runH seenB r) fun _ r => .ok (none, r) else if c = 104 then bindH (textH [116, 116, 112, 58, 47, 47] r) fun _ r => bindH (authH r) fun nm r => bindH (peekH r) fun c r => if c = 47 ∨ c = 63 then bindH (runH seenB r) fun _ r => .ok (some nm, r) else .ok (some nm, r) else .ok (none, r)
def zerooneB (c : UInt8) : Bool := decide (c.toNat = 48) || decide (c.toNat = 49)
def firstH (l : List UInt8) : RH (Option (List UInt8)) :=
  bindH (nextH capB l) fun _ r => bindH (methodH 1 r) fun _ r => bindH (textH [32] r) fun _ r => bindH (targetH r) fun o r => bindH (textH [32, 72, 84, 84, 80, 47, 49, 46] r) fun _ r => bindH (nextH zerooneB r) fun _ r => bindH (textH [13, 10] r) fun _ r => .ok (o, r)
def hostL : List UInt8 := [104, 111, 115, 116]
def fieldsH : Nat → List UInt8 → RH (Int × List UInt8)
  | 0, _ => .error 0
  | f + 1, l => bindH (peekH l) fun c r => if c = 13 then bindH (textH [13, 10] r) fun _ r => .ok ((2, []), r) else bindH (nextH wordB r) fun a r => bindH (runH wordB r) fun ws r => bindH (textH [58] r) fun _ r => bindH (runH blankB r) fun _ r => if equalFold (a :: ws) hostL then bindH (authH r) fun nm r => bindH (runH blankB r) fun _ r => bindH (textH [13, 10] r) fun _ r => .ok ((1, nm), r) else bindH (runH shownB r) fun _ r => bindH (textH [13, 10] r) fun _ r => fieldsH f r
def headH (l : List UInt8) : RH (Int × List UInt8) :=
  bindH (firstH l) fun o r => match o with
    | some nm => .ok ((1, nm), r)
    | none => fieldsH 100000 r
def lookH (b : List UInt8) : Int × List UInt8 := match headH b with
  | .error k => (k, [])
  | .ok (x, _) => x

/-! what it has told it tells of longer bytes -/
def StableH {α : Type} (p : List UInt8 → RH α) : Prop := ∀ l x, (∀ a r, p l = .ok (a, r) → p (l ++ x) = .ok (a, r ++ x)) ∧ (∀ k, p l = .error k → k ≠ 0 → p (l ++ x) = .error k) ∧ (∀ k, p l = .error k → k = 0 ∨ k = 3)
theorem StableH.bind {α β : Type} {p : List UInt8 → RH α} {f : α → List UInt8 → RH β} (hp : StableH p) (hf : ∀ a, StableH (f a)) : StableH (fun l => bindH (p l) f) := by
  intro l x
  obtain ⟨h1, h2, h3⟩ := hp l x
  cases hpl : p l with
  | error k =>
    refine ⟨fun a r h => ?_, fun k' h hk => ?_, fun k' h => ?_⟩
    · simp only [hpl, bindH_err] at h; cases h
    · simp only [hpl, bindH_err, Except.error.injEq] at h
      subst h
      simp only [h2 k hpl hk, bindH_err]
    · simp only [hpl, bindH_err, Except.error.injEq] at h
      subst h
      exact h3 k hpl
  | ok y =>
    obtain ⟨a, r⟩ := y
    obtain ⟨g1, g2, g3⟩ := hf a r x
    refine ⟨fun b r' h => ?_, fun k' h hk => ?_, fun k' h => ?_⟩
    · simp only [hpl, bindH_ok] at h
      simp only [h1 a r hpl, bindH_ok]
      exact g1 b r' h
    · simp only [hpl, bindH_ok] at h
      simp only [h1 a r hpl, bindH_ok]
      exact g2 k' h hk
    · simp only [hpl, bindH_ok] at h
      exact g3 k' h
theorem StableH.ret {α : Type} (a : α) : StableH (fun r => .ok (a, r)) := by
  intro l x
  refine ⟨fun a' r h => ?_, fun k h => ?_, fun k h => ?_⟩
  · simp only [Except.ok.injEq, Prod.mk.injEq] at h
    obtain ⟨rfl, rfl⟩ := h
    rfl
  · cases h
  · cases h
theorem StableH.ite {α : Type} {c : Prop} [Decidable c] {p q : List UInt8 → RH α} (hp : StableH p) (hq : StableH q) : StableH (fun l => if c then p l else q l) := by
  by_cases h : c
  · simp only [h, if_true]; exact hp
  · simp only [h, if_false]; exact hq
theorem stable_next (p : UInt8 → Bool) : StableH (nextH p) := by
  intro l x
  cases l with
  | nil => exact ⟨fun a r h => by simp [nextH] at h, fun k h hk => by simp [nextH] at h; omega, fun k h => by simp [nextH] at h; omega⟩
  | cons c l =>
    refine ⟨fun a r h => ?_, fun k h hk => ?_, fun k h => ?_⟩ <;> simp only [nextH, List.cons_append] at h ⊢ <;> split at h <;> simp_all
theorem stable_peek : StableH peekH := by
  intro l x
  cases l with
  | nil => exact ⟨fun a r h => by simp [peekH] at h, fun k h hk => by simp [peekH] at h; omega, fun k h => by simp [peekH] at h; omega⟩
  | cons c l =>
    refine ⟨fun a r h => ?_, fun k h hk => ?_, fun k h => ?_⟩ <;> simp only [peekH, List.cons_append] at h ⊢ <;> simp_all
    obtain ⟨rfl, rfl⟩ := h
    rfl
theorem stable_text : ∀ s : List UInt8, StableH (textH s)
  | [] => StableH.ret ()
  | c :: s => (stable_next _).bind fun _ => stable_text s
theorem stable_run (p : UInt8 → Bool) : StableH (runH p) := by
  intro l x
  induction l with
  | nil => exact ⟨fun a r h => by simp [runH] at h, fun k h hk => by simp [runH] at h; omega, fun k h => by simp [runH] at h; omega⟩
  | cons c l ih =>
    obtain ⟨h1, h2, h3⟩ := ih
    by_cases hc : p c = true
    · cases hl : runH p l with
      | error k0 =>
        refine ⟨fun a r h => ?_, fun k h hk => ?_, fun k h => ?_⟩ <;> simp only [runH, hc, if_true, hl, bindH_err, List.cons_append] at h ⊢ <;> simp only [Except.error.injEq, reduceCtorEq] at h
        · subst h; rw [h2 _ hl hk]; rfl
        · subst h; exact h3 _ hl
      | ok y =>
        obtain ⟨a0, r0⟩ := y
        refine ⟨fun a r h => ?_, fun k h hk => ?_, fun k h => ?_⟩ <;> simp only [runH, hc, if_true, hl, bindH_ok, List.cons_append] at h ⊢ <;> simp only [Except.ok.injEq, Prod.mk.injEq, reduceCtorEq] at h
        obtain ⟨rfl, rfl⟩ := h
        rw [h1 _ _ hl]; rfl
    · refine ⟨fun a r h => ?_, fun k h hk => ?_, fun k h => ?_⟩ <;> simp only [runH, hc, if_false, List.cons_append] at h ⊢ <;> simp at h
      obtain ⟨rfl, rfl⟩ := h
      rfl
theorem stable_name : ∀ l x (name : List UInt8), (∀ a r, nameH name l = .ok (a, r) → nameH name (l ++ x) = .ok (a, r ++ x)) ∧ (∀ k, nameH name l = .error k → k ≠ 0 → nameH name (l ++ x) = .error k) ∧ (∀ k, nameH name l = .error k → k = 0 ∨ k = 3)
  | [], x, name => ⟨fun a r h => by simp [nameH] at h, fun k h hk => by simp [nameH] at h; omega, fun k h => by simp [nameH] at h; omega⟩
  | c :: l, x, name => by
    have ih := stable_name l x (name ++ [c])
    simp only [nameH, List.cons_append]
    by_cases h1 : hostB c = true
    · simp only [h1, if_true]
      by_cases h2 : c = 46 ∧ (dotE name = true ∨ name.length = 252) ∨ 253 ≤ name.length
      · simp [if_pos h2]
      · simp only [if_neg h2]; exact ih
    · simp only [h1]
      by_cases h2 : dotE name = true
      · simp [h2]
      · simp [h2]
theorem stable_port : ∀ l x (n many : Nat), (∀ a r, portH n many l = .ok (a, r) → portH n many (l ++ x) = .ok (a, r ++ x)) ∧ (∀ k, portH n many l = .error k → k ≠ 0 → portH n many (l ++ x) = .error k) ∧ (∀ k, portH n many l = .error k → k = 0 ∨ k = 3)
  | [], x, n, many => ⟨fun a r h => by simp [portH] at h, fun k h hk => by simp [portH] at h; omega, fun k h => by simp [portH] at h; omega⟩
  | c :: l, x, n, many => by
    have ih := stable_port l x (10 * n + (c.toNat - 48)) (many + 1)
    simp only [portH, List.cons_append]
    by_cases h1 : digB c = true
    · simp only [h1, if_true]
      by_cases h2 : 5 ≤ many ∨ 65535 < 10 * n + (c.toNat - 48)
      · simp [if_pos h2]
      · simp only [if_neg h2]; exact ih
    · simp [h1]
theorem stable_method : ∀ l x (many : Nat), (∀ a r, methodH many l = .ok (a, r) → methodH many (l ++ x) = .ok (a, r ++ x)) ∧ (∀ k, methodH many l = .error k → k ≠ 0 → methodH many (l ++ x) = .error k) ∧ (∀ k, methodH many l = .error k → k = 0 ∨ k = 3)
  | [], x, many => ⟨fun a r h => by simp [methodH] at h, fun k h hk => by simp [methodH] at h; omega, fun k h => by simp [methodH] at h; omega⟩
  | c :: l, x, many => by
    have ih := stable_method l x (many + 1)
    simp only [methodH, List.cons_append]
    by_cases h1 : c = 32
    · simp [h1]
    · simp only [h1, if_false]
      by_cases h2 : 16 ≤ many
      · simp [h2]
      · simp only [h2, if_false]
        by_cases h3 : capB c = true
        · simp only [h3, if_true]; exact ih
        · simp [h3]
theorem stable_auth : StableH authH :=
  StableH.bind (fun l x => stable_name l x []) fun name => stable_peek.bind fun c => StableH.ite ((stable_next _).bind fun _ => (stable_next _).bind fun d => StableH.bind (fun l x => stable_port l x _ _) fun _ => StableH.ret _) (StableH.ret _)
theorem stable_target : StableH targetH :=
  (stable_next _).bind fun c => StableH.ite ((stable_run _).bind fun _ => StableH.ret _) (StableH.ite ((stable_text _).bind fun _ => stable_auth.bind fun nm => stable_peek.bind fun c => StableH.ite ((stable_run _).bind fun _ => StableH.ret _) (StableH.ret _)) (StableH.ret _))
theorem stable_first : StableH firstH :=
  (stable_next _).bind fun _ => StableH.bind (fun l x => stable_method l x 1) fun _ => (stable_text _).bind fun _ => stable_target.bind fun o => (stable_text _).bind fun _ => (stable_next _).bind fun _ => (stable_text _).bind fun _ => StableH.ret _
theorem stable_fields : ∀ f : Nat, StableH (fieldsH f)
  | 0 => fun l x => ⟨fun a r h => by simp [fieldsH] at h, fun k h hk => by simp [fieldsH] at h; omega, fun k h => by simp [fieldsH] at h; omega⟩
  | f + 1 => stable_peek.bind fun c => StableH.ite ((stable_text _).bind fun _ => StableH.ret _) ((stable_next _).bind fun a => (stable_run _).bind fun ws => (stable_text _).bind fun _ => (stable_run _).bind fun _ => StableH.ite (stable_auth.bind fun nm => (stable_run _).bind fun _ => (stable_text _).bind fun _ => StableH.ret _) ((stable_run _).bind fun _ => (stable_text _).bind fun _ => stable_fields f))
theorem stable_head : StableH headH := stable_first.bind fun o => by
  cases o with
  | some nm => exact StableH.ret _
  | none => exact stable_fields _

/-! where it ends -/
/-- the reading asks no more than whether there is a next byte, and which -/
def NearH {α : Type} (p : List UInt8 → RH α) : Prop := ∀ l a r, p l = .ok (a, r) → ∃ pre, l = pre ++ r ∧ ∀ r', r'.head? = r.head? → p (pre ++ r') = .ok (a, r')
/-- the reading ends behind e, and asks for nothing that stands behind it -/
def EndsH {α : Type} (e : List UInt8) (p : List UInt8 → RH α) : Prop := ∀ l a r, p l = .ok (a, r) → ∃ pre, l = pre ++ e ++ r ∧ ∀ r', p (pre ++ e ++ r') = .ok (a, r')
theorem head_app {pre r r' : List UInt8} (h : r'.head? = r.head?) : (pre ++ r').head? = (pre ++ r).head? := by
  cases pre with
  | nil => exact h
  | cons a pre => rfl
theorem NearH.bind {α β : Type} {p : List UInt8 → RH α} {f : α → List UInt8 → RH β} (hp : NearH p) (hf : ∀ a, NearH (f a)) : NearH (fun l => bindH (p l) f) := by
  intro l b r h
  cases hpl : p l with
  | error k => simp only [hpl, bindH_err] at h; cases h
  | ok y =>
    obtain ⟨a, m⟩ := y
    simp only [hpl, bindH_ok] at h
    obtain ⟨pre1, rfl, g1⟩ := hp l a m hpl
    obtain ⟨pre2, rfl, g2⟩ := hf a m b r h
    refine ⟨pre1 ++ pre2, by simp, fun r' hr => ?_⟩
    simp only [List.append_assoc]
    rw [g1 (pre2 ++ r') (head_app hr), bindH_ok]
    exact g2 r' hr
theorem EndsH.bind {α β : Type} {p : List UInt8 → RH α} {f : α → List UInt8 → RH β} {e : List UInt8} (he : e ≠ []) (hp : NearH p) (hf : ∀ a, EndsH e (f a)) : EndsH e (fun l => bindH (p l) f) := by
  intro l b r h
  cases hpl : p l with
  | error k => simp only [hpl, bindH_err] at h; cases h
  | ok y =>
    obtain ⟨a, m⟩ := y
    simp only [hpl, bindH_ok] at h
    obtain ⟨pre1, rfl, g1⟩ := hp l a m hpl
    obtain ⟨pre2, rfl, g2⟩ := hf a m b r h
    refine ⟨pre1 ++ pre2, by simp, fun r' => ?_⟩
    simp only [List.append_assoc]
    have hh : (pre2 ++ (e ++ r')).head? = (pre2 ++ e ++ r).head? := by
      cases pre2 with
      | nil => cases e with
        | nil => exact absurd rfl he
        | cons a e => rfl
      | cons a pre => rfl
    rw [g1 (pre2 ++ (e ++ r')) hh, bindH_ok, ← List.append_assoc]
    exact g2 r'
theorem EndsH.ret {α β : Type} {p : List UInt8 → RH α} {e : List UInt8} (hp : EndsH e p) (g : α → β) : EndsH e (fun l => bindH (p l) fun a r => .ok (g a, r)) := by
  intro l b r h
  cases hpl : p l with
  | error k => simp only [hpl, bindH_err] at h; cases h
  | ok y =>
    obtain ⟨a, m⟩ := y
    simp only [hpl, bindH_ok, Except.ok.injEq, Prod.mk.injEq] at h
    obtain ⟨rfl, rfl⟩ := h
    obtain ⟨pre, rfl, g1⟩ := hp l a m hpl
    exact ⟨pre, rfl, fun r' => by simp only [g1 r', bindH_ok]⟩
theorem EndsH.near {α : Type} {p : List UInt8 → RH α} {e : List UInt8} (h : EndsH e p) : NearH p := fun l a r hl => by
  obtain ⟨pre, h1, h2⟩ := h l a r hl
  exact ⟨pre ++ e, h1, fun r' _ => h2 r'⟩
theorem NearH.ret {α : Type} (a : α) : NearH (fun r => .ok (a, r)) := fun l b r h => by
  simp only [Except.ok.injEq, Prod.mk.injEq] at h
  obtain ⟨rfl, rfl⟩ := h
  exact ⟨[], rfl, fun r' _ => rfl⟩
theorem NearH.ite {α : Type} {c : Prop} [Decidable c] {p q : List UInt8 → RH α} (hp : NearH p) (hq : NearH q) : NearH (fun l => if c then p l else q l) := by
  by_cases h : c
  · simp only [h, if_true]; exact hp
  · simp only [h, if_false]; exact hq
theorem EndsH.ite {α : Type} {e : List UInt8} {c : Prop} [Decidable c] {p q : List UInt8 → RH α} (hp : EndsH e p) (hq : EndsH e q) : EndsH e (fun l => if c then p l else q l) := by
  by_cases h : c
  · simp only [h, if_true]; exact hp
  · simp only [h, if_false]; exact hq
theorem near_next (p : UInt8 → Bool) : NearH (nextH p) := fun l a r h => by
  cases l with
  | nil => simp [nextH] at h
  | cons c l =>
    simp only [nextH] at h
    split at h
    · rename_i hc
      simp only [Except.ok.injEq, Prod.mk.injEq] at h
      obtain ⟨rfl, rfl⟩ := h
      exact ⟨[c], rfl, fun r' _ => by simp [nextH, hc]⟩
    · cases h
theorem near_peek : NearH peekH := fun l a r h => by
  cases l with
  | nil => simp [peekH] at h
  | cons c l =>
    simp only [peekH, Except.ok.injEq, Prod.mk.injEq] at h
    obtain ⟨rfl, rfl⟩ := h
    refine ⟨[], rfl, fun r' hr => ?_⟩
    cases r' with
    | nil => simp at hr
    | cons d r' => simp at hr; subst hr; rfl
theorem text_ends : ∀ (s l : List UInt8) (a : Unit) (r : List UInt8), textH s l = .ok (a, r) → l = s ++ r
  | [], l, a, r, h => by simp [textH] at h; simp [h]
  | c :: s, l, a, r, h => by
    cases l with
    | nil => simp [textH, nextH, bindH] at h
    | cons d l =>
      by_cases hc : d = c
      · subst hc
        simp only [textH, nextH, beq_self_eq_true, if_true, bindH_ok] at h
        rw [text_ends s l a r h]; rfl
      · have hc' : (d == c) = false := by simpa using hc
        simp [textH, nextH, hc', bindH] at h
theorem text_at : ∀ (s r : List UInt8), textH s (s ++ r) = .ok ((), r)
  | [], r => rfl
  | c :: s, r => by simp only [textH, List.cons_append, nextH, beq_self_eq_true, if_true, bindH_ok]; exact text_at s r
theorem ends_text (s : List UInt8) : EndsH s (textH s) := fun l a r h => ⟨[], by simpa using text_ends s l a r h, fun r' => by simpa using text_at s r'⟩
theorem near_run (p : UInt8 → Bool) : NearH (runH p) := fun l => by
  induction l with
  | nil => intro a r h; simp [runH] at h
  | cons c l ih =>
    intro a r h
    by_cases hc : p c = true
    · cases hl : runH p l with
      | error k0 => simp [runH, hc, hl, bindH] at h
      | ok y =>
        obtain ⟨a0, r0⟩ := y
        simp only [runH, hc, if_true, hl, bindH_ok, Except.ok.injEq, Prod.mk.injEq] at h
        obtain ⟨rfl, rfl⟩ := h
        obtain ⟨pre, h1, h2⟩ := ih _ _ hl
        refine ⟨c :: pre, by rw [h1]; rfl, fun r' hr => ?_⟩
        simp only [List.cons_append, runH, hc, if_true, h2 r' hr, bindH_ok]
    · simp [runH, hc] at h
      obtain ⟨rfl, rfl⟩ := h
      refine ⟨[], rfl, fun r' hr => ?_⟩
      cases r' with
      | nil => simp at hr
      | cons d r' => simp at hr; subst hr; simp [runH, hc]
theorem near_name : ∀ (l name a r : List UInt8), nameH name l = .ok (a, r) → ∃ pre, l = pre ++ r ∧ ∀ r', r'.head? = r.head? → nameH name (pre ++ r') = .ok (a, r')
  | [], name, a, r, h => by simp [nameH] at h
  | c :: l, name, a, r, h => by
    simp only [nameH] at h
    by_cases h1 : hostB c = true
    · simp only [h1, if_true] at h
      by_cases h2 : c = 46 ∧ (dotE name = true ∨ name.length = 252) ∨ 253 ≤ name.length
      · rw [if_pos h2] at h; cases h
      · rw [if_neg h2] at h
        obtain ⟨pre, g1, g2⟩ := near_name l _ a r h
        refine ⟨c :: pre, by rw [g1]; rfl, fun r' hr => ?_⟩
        simp only [List.cons_append, nameH, h1, if_true, if_neg h2]
        exact g2 r' hr
    · by_cases h2 : dotE name = true
      · simp [h1, h2] at h
      · simp [h1, h2] at h
        obtain ⟨rfl, rfl⟩ := h
        refine ⟨[], rfl, fun r' hr => ?_⟩
        cases r' with
        | nil => simp at hr
        | cons d r' => simp at hr; subst hr; simp [nameH, h1, h2]
theorem near_port : ∀ (l : List UInt8) (n many : Nat) (a : Unit) (r : List UInt8), portH n many l = .ok (a, r) → ∃ pre, l = pre ++ r ∧ ∀ r', r'.head? = r.head? → portH n many (pre ++ r') = .ok (a, r')
  | [], n, many, a, r, h => by simp [portH] at h
  | c :: l, n, many, a, r, h => by
    simp only [portH] at h
    by_cases h1 : digB c = true
    · simp only [h1, if_true] at h
      by_cases h2 : 5 ≤ many ∨ 65535 < 10 * n + (c.toNat - 48)
      · rw [if_pos h2] at h; cases h
      · rw [if_neg h2] at h
        obtain ⟨pre, g1, g2⟩ := near_port l _ _ a r h
        refine ⟨c :: pre, by rw [g1]; rfl, fun r' hr => ?_⟩
        simp only [List.cons_append, portH, h1, if_true, if_neg h2]
        exact g2 r' hr
    · simp [h1] at h
      obtain rfl := h
      refine ⟨[], rfl, fun r' hr => ?_⟩
      cases r' with
      | nil => simp at hr
      | cons d r' => simp at hr; subst hr; simp [portH, h1]
theorem near_method : ∀ (l : List UInt8) (many : Nat) (a : Unit) (r : List UInt8), methodH many l = .ok (a, r) → ∃ pre, l = pre ++ r ∧ ∀ r', r'.head? = r.head? → methodH many (pre ++ r') = .ok (a, r')
  | [], many, a, r, h => by simp [methodH] at h
  | c :: l, many, a, r, h => by
    simp only [methodH] at h
    by_cases h1 : c = 32
    · simp only [h1, if_true, Except.ok.injEq, Prod.mk.injEq] at h
      obtain ⟨_, rfl⟩ := h
      refine ⟨[], by rw [h1]; rfl, fun r' hr => ?_⟩
      cases r' with
      | nil => simp at hr
      | cons d r' => simp at hr; subst hr; simp [methodH]
    · simp only [h1, if_false] at h
      by_cases h2 : 16 ≤ many
      · simp [h2] at h
      · simp only [h2, if_false] at h
        by_cases h3 : capB c = true
        · simp only [h3, if_true] at h
          obtain ⟨pre, g1, g2⟩ := near_method l _ a r h
          refine ⟨c :: pre, by rw [g1]; rfl, fun r' hr => ?_⟩
          simp only [List.cons_append, methodH, h1, if_false, h2, h3, if_true]
          exact g2 r' hr
        · simp [h3] at h
theorem near_auth : NearH authH :=
  NearH.bind (fun l a r => near_name l [] a r) fun name => near_peek.bind fun c => NearH.ite ((near_next _).bind fun _ => (near_next _).bind fun d => NearH.bind (fun l a r => near_port l _ _ a r) fun _ => NearH.ret _) (NearH.ret _)
theorem near_target : NearH targetH :=
  (near_next _).bind fun c => NearH.ite ((near_run _).bind fun _ => NearH.ret _) (NearH.ite ((ends_text _).near.bind fun _ => near_auth.bind fun nm => near_peek.bind fun c => NearH.ite ((near_run _).bind fun _ => NearH.ret _) (NearH.ret _)) (NearH.ret _))
theorem ends_first : EndsH [13, 10] firstH :=
  EndsH.bind (by simp) (near_next _) fun _ => EndsH.bind (by simp) (fun l a r => near_method l 1 a r) fun _ => EndsH.bind (by simp) (ends_text _).near fun _ => EndsH.bind (by simp) near_target fun o => EndsH.bind (by simp) (ends_text _).near fun _ => EndsH.bind (by simp) (near_next _) fun _ => (ends_text _).ret fun _ => o
theorem ends_fields : ∀ f : Nat, EndsH [13, 10] (fieldsH f)
  | 0 => fun l a r h => by simp [fieldsH] at h
  | f + 1 => EndsH.bind (by simp) near_peek fun c => EndsH.ite ((ends_text _).ret fun _ => (2, [])) (EndsH.bind (by simp) (near_next _) fun a => EndsH.bind (by simp) (near_run _) fun ws => EndsH.bind (by simp) (ends_text _).near fun _ => EndsH.bind (by simp) (near_run _) fun _ => EndsH.ite (EndsH.bind (by simp) near_auth fun nm => EndsH.bind (by simp) (near_run _) fun _ => (ends_text _).ret fun _ => (1, nm)) (EndsH.bind (by simp) (near_run _) fun _ => EndsH.bind (by simp) (ends_text _).near fun _ => ends_fields f))
theorem ends_head : EndsH [13, 10] headH := fun l x r h => by
  unfold headH at h
  cases hf : firstH l with
  | error k => rw [hf, bindH_err] at h; cases h
  | ok y =>
    obtain ⟨o, m⟩ := y
    rw [hf, bindH_ok] at h
    cases o with
    | some nm =>
      simp only [Except.ok.injEq, Prod.mk.injEq] at h
      obtain ⟨rfl, rfl⟩ := h
      obtain ⟨pre, g1, g2⟩ := ends_first _ _ _ hf
      exact ⟨pre, g1, fun r' => by unfold headH; rw [g2 r', bindH_ok]⟩
    | none =>
      simp only at h
      obtain ⟨pre1, g1, g2⟩ := ends_first.near _ _ _ hf
      obtain ⟨pre2, q1, q2⟩ := ends_fields _ _ _ _ h
      subst q1
      refine ⟨pre1 ++ pre2, by rw [g1]; simp, fun r' => ?_⟩
      unfold headH
      have hh : (pre2 ++ ([13, 10] ++ r')).head? = (pre2 ++ [13, 10] ++ r).head? := by
        cases pre2 <;> rfl
      have := g2 (pre2 ++ ([13, 10] ++ r')) hh
      simp only [List.append_assoc] at this ⊢
      rw [this, bindH_ok]
      have h3 := q2 r'
      simp only [List.append_assoc] at h3
      exact h3
end Go.Proofs.YtocnkiojlifgpaaGreatDoor
