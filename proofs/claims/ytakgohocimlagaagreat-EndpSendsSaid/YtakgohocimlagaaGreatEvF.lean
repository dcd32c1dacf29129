/-
  An evaluator over plain data (6): slices, lengths, least and greatest, aggregates; then all operations that touch no memory in one theorem. Of no program. No condition.
-/
import Derived.Test.YtakgohocimlagaaGreatEvE
namespace Go.Proofs.YtakgohocimlagaaGreat
namespace Ev
variable [E : Inhabited EnvT]
set_option linter.unusedVariables false
set_option linter.unusedSectionVars false
set_option linter.unusedSimpArgs false
open Go.RowKit

section
variable {P : Program} {ρ : Mp} {ev : Operand → Value}

theorem addr_add (B o n : Nat) : (⟨B, o, none⟩ : Addr).add n = ⟨B, o + n, none⟩ := by
  unfold Addr.add; split
  · rename_i h; simp [h]
  · rfl

theorem slS_gives {v : AV} {sy : Bool} {t : TypeId} {x : Operand} {lo hi : Option Operand} {vs : List AV} (ht : P.underlying t = some .string)
    (hx : execK sy (.slS lo.isSome hi.isSome) vs = some (v, true)) (hR : Rs ρ vs ((x :: (lo.toList ++ hi.toList)).map ev)) :
    ∃ V, R ρ v V ∧ ∀ w, (Instr.sliceAt t (ev x) (lo.map ev) (hi.map ev) none).run P w = .ok V w := by
  obtain ⟨y, r, rfl, hy, hr⟩ := RsC hR
  generalize hX : ev x = X at hy
  cases y <;> simp only [execK, reduceCtorEq] at hx
  split at hx
  · rename_i s _ l h q he
    simp only [Option.some.injEq, Prod.mk.injEq] at hx
    obtain ⟨rfl, hq⟩ := hx
    cases hy
    refine ⟨_, .str _, fun w => ?_⟩
    unfold Instr.sliceAt
    simp only [Sem.run_bind, r_und ht, Result.andThen_ok]
    unfold Instr.slice
    obtain ⟨e1, e2, e3⟩ := ends_gives (P := P) (w := w) (isS := false) (len := (bs s).size) (most := (bs s).size) (mostA := (bs s).size) hr (by rw [bs_size]; exact he) hq (Nat.le_refl _) (Nat.le_refl _)
    simp only [Sem.run_bind, r_und ht, Result.andThen_ok, Option.isSome_none, Bool.false_eq_true, if_false, e1, Sem.run_pure, bs_extract]
  · cases hx

theorem slL_gives {v : AV} {sy : Bool} {t e : TypeId} {i : TypeInfo} {x : Operand} {lo hi : Option Operand} {vs : List AV} (ht : P.underlying t = some (.slice e)) (hi' : P.info? e = some i)
    (hx : execK sy (.slL i.size lo.isSome hi.isSome) vs = some (v, true)) (hR : Rs ρ vs ((x :: (lo.toList ++ hi.toList)).map ev)) :
    ∃ V, R ρ v V ∧ ∀ w, (Instr.sliceAt t (ev x) (lo.map ev) (hi.map ev) none).run P w = .ok V w := by
  obtain ⟨y, r, rfl, hy, hr⟩ := RsC hR
  generalize hX : ev x = X at hy
  have red : ∀ w, (Instr.sliceAt t X (lo.map ev) (hi.map ev) none).run P w = (Instr.slice t X (lo.map ev) (hi.map ev) none).run P w := fun w => by
    unfold Instr.sliceAt
    simp only [Sem.run_bind, r_und ht, Result.andThen_ok]
  cases y <;> simp only [execK, reduceCtorEq] at hx
  -- nil
  · split at hx
    · rename_i l h q he
      simp only [Option.some.injEq, Prod.mk.injEq] at hx
      obtain ⟨rfl, hq⟩ := hx
      cases hy
      refine ⟨_, .nils, fun w => ?_⟩
      rw [red]
      unfold Instr.slice
      obtain ⟨e1, e2, e3⟩ := ends_gives (P := P) (w := w) (isS := true) (len := 0) (most := 0) (mostA := 0) hr he hq (Nat.le_refl _) (Nat.le_refl _)
      simp only [Sem.run_bind, r_und ht, Result.andThen_ok, e1, r_size hi', Sem.run_pure]
      have h0 : h = 0 := by omega
      have l0 : l = 0 := by omega
      subst h0; subst l0
      simp
    · cases hx
  · rename_i id off len cap
    cases cap with
    | fix c =>
      simp only [] at hx
      split at hx
      · rename_i l h q he
        simp only [Option.some.injEq, Prod.mk.injEq] at hx
        obtain ⟨rfl, hq⟩ := hx
        cases hy with
        | sl hid hl =>
          rename_i e0
          simp only [ACap.of] at hl
          have hends : ∀ w, _ := fun w => ends_gives (P := P) (w := w) (isS := true) (len := len) (most := c) (mostA := c) hr he hq hl (Nat.le_refl _)
          obtain ⟨_, e2, e3⟩ := hends default
          have e3' : h ≤ c := by omega
          by_cases hcl : c = l
          · subst hcl
            simp only [if_true]
            refine ⟨_, R.sl (cap := .fix (c - c)) (by exact hid) (by simp only [ACap.of]; omega), fun w => ?_⟩
            rw [red]
            unfold Instr.slice
            simp only [ACap.of, Sem.run_bind, r_und ht, Result.andThen_ok, (hends w).1, r_size hi', Sem.run_pure, if_true]
          · refine ⟨_, R.sl (cap := .fix (c - l)) (by exact hid) (by simp only [ACap.of]; omega), fun w => ?_⟩
            rw [red]
            unfold Instr.slice
            simp only [Sem.run_bind, r_und ht, Result.andThen_ok, (hends w).1, r_size hi', Sem.run_pure, ACap.of, hcl, if_false, Option.map_some, addr_add, Nat.add_assoc]
      · cases hx
    | rest z' =>
      simp only [] at hx
      split at hx
      · rename_i l h q he
        simp only [Option.some.injEq, Prod.mk.injEq, Bool.and_eq_true] at hx
        obtain ⟨rfl, ⟨hq, hz⟩, hz0⟩ := hx
        have hz := Nat.eq_of_beq_eq_true hz
        have hz0 : 0 < i.size := Nat.le_of_ble_eq_true hz0
        subst hz
        cases hy with
        | sl hid hl =>
          rename_i e0
          simp only [ACap.of] at hl
          have hends : ∀ w, _ := fun w => ends_gives (P := P) (w := w) (isS := true) (len := len) (most := (e0.tot - off) / i.size) (mostA := len) hr he hq hl hl
          obtain ⟨_, e2, e3⟩ := hends default
          have e3' : h ≤ len := by omega
          by_cases hcl : (e0.tot - off) / i.size = l
          · have h0 : h - l = 0 := by omega
            rw [h0]
            refine ⟨_, R.sl0 (o := e0.dl + off) hid, fun w => ?_⟩
            rw [red]
            unfold Instr.slice
            have hw := (hends w).1
            rw [hcl] at hw
            simp only [ACap.of, Sem.run_bind, r_und ht, Result.andThen_ok, hcl, hw, r_size hi', Sem.run_pure, if_true, h0, Nat.sub_self]
          · have hdiv : (e0.tot - (off + l * i.size)) / i.size = (e0.tot - off) / i.size - l := by
              rw [← Nat.sub_sub, Nat.mul_comm l, Nat.sub_mul_div]
            refine ⟨_, R.sl (cap := .rest i.size) (by exact hid) (by simp only [ACap.of]; rw [hdiv]; omega), fun w => ?_⟩
            rw [red]
            unfold Instr.slice
            simp only [Sem.run_bind, r_und ht, Result.andThen_ok, (hends w).1, r_size hi', Sem.run_pure, ACap.of, hcl, if_false, Option.map_some, addr_add, Nat.add_assoc, hdiv]
        | sl0 hid =>
          obtain ⟨_, e2, e3⟩ := ends_gives (P := P) (w := default) (isS := true) (len := 0) (most := 0) (mostA := 0) hr he hq (Nat.le_refl _) (Nat.le_refl _)
          have h0 : h = 0 := by omega
          have l0 : l = 0 := by omega
          subst h0; subst l0
          rename_i o0 e0 _
          refine ⟨_, R.sl0 (o := o0) hid, fun w => ?_⟩
          rw [red]
          unfold Instr.slice
          obtain ⟨e1, _, _⟩ := ends_gives (P := P) (w := w) (isS := true) (len := 0) (most := 0) (mostA := 0) hr he hq (Nat.le_refl _) (Nat.le_refl _)
          simp only [Sem.run_bind, r_und ht, Result.andThen_ok, e1, r_size hi', Sem.run_pure, if_true, Nat.sub_self]
      · cases hx

theorem slA_gives {v : AV} {sy : Bool} {t e : TypeId} {n : Nat} {i : TypeInfo} {x : Operand} {lo hi : Option Operand} {vs : List AV} (ht : P.underlying t = some (.array n e)) (hi' : P.info? e = some i)
    (hx : execK sy (.slA n i.size lo.isSome hi.isSome) vs = some (v, true)) (hR : Rs ρ vs ((x :: (lo.toList ++ hi.toList)).map ev)) :
    ∃ V, R ρ v V ∧ ∀ w, (Instr.sliceAt t (ev x) (lo.map ev) (hi.map ev) none).run P w = .ok V w := by
  obtain ⟨y, r, rfl, hy, hr⟩ := RsC hR
  generalize hX : ev x = X at hy
  cases y <;> simp only [execK, reduceCtorEq] at hx
  split at hx
  · rename_i id off l h q he
    simp only [Option.some.injEq, Prod.mk.injEq] at hx
    obtain ⟨rfl, hq⟩ := hx
    cases hy with
    | ptr hid =>
      have hends : ∀ w, _ := fun w => ends_gives (P := P) (w := w) (isS := false) (len := n) (most := n) (mostA := n) hr he hq (Nat.le_refl _) (Nat.le_refl _)
      obtain ⟨_, e2, e3⟩ := hends default
      have e3' : h ≤ n := by omega
      by_cases hcl : n = l
      · subst hcl
        simp only [if_true]
        refine ⟨_, R.sl (cap := .fix (n - n)) (by exact hid) (by simp only [ACap.of]; omega), fun w => ?_⟩
        unfold Instr.sliceAt
        simp only [Sem.run_bind, r_und ht, Result.andThen_ok, Instr.sureAddr, (hends w).1, r_size hi', Sem.run_pure, ACap.of, if_true]
      · refine ⟨_, R.sl (cap := .fix (n - l)) (by exact hid) (by simp only [ACap.of]; omega), fun w => ?_⟩
        unfold Instr.sliceAt
        simp only [Sem.run_bind, r_und ht, Result.andThen_ok, Instr.sureAddr, (hends w).1, r_size hi', Sem.run_pure, ACap.of, hcl, if_false, addr_add, Nat.add_assoc]
  · cases hx

theorem ends3_gives {w : World} {isS : Bool} {len most mostA : Nat} {lo : Option Operand} {hi mx : Operand} {r : List AV} {l h m : Nat} {q : Bool}
    (hR : Rs ρ r ((lo.toList ++ [hi, mx]).map ev)) (he : ends3 lo.isSome mostA r = some (l, h, m, q)) (hq : q = true) (hA : mostA ≤ most) :
    (Instr.sliceBounds isS len most (lo.map ev) (some (ev hi)) (some (ev mx))).run P w = .ok (l, h, m) w ∧ l ≤ h ∧ h ≤ m ∧ m ≤ mostA := by
  subst hq
  unfold Instr.sliceBounds
  cases lo with
  | none =>
    simp only [Option.toList, List.nil_append, List.map_cons, List.map_nil] at hR
    obtain ⟨x, y, rfl, hx, hy⟩ := Rs2 hR
    cases x <;> cases y <;> simp only [ends3, Option.isSome, reduceCtorEq, Option.some.injEq, Prod.mk.injEq] at he
    obtain ⟨rfl, rfl, rfl, hq⟩ := he
    generalize hV : ev hi = V at hx
    generalize hW : ev mx = W at hy
    cases hx; cases hy
    simp only [Bool.and_eq_true, decide_eq_true_eq] at hq
    refine ⟨?_, by omega, by omega, by omega⟩
    simp only [Option.map_none, Sem.run_bind, Sem.run_pure, Result.andThen_ok]
    rw [sliceBound_ok hq.1.1.1 (by omega)]
    simp only [Result.andThen_ok]
    rw [sliceBound_ok hq.1.2 (by omega)]
    simp only [Result.andThen_ok]
  | some a =>
    simp only [Option.toList, List.cons_append, List.nil_append, List.map_cons, List.map_nil] at hR
    obtain ⟨z, r', rfl, hz, hr⟩ := RsC hR
    obtain ⟨x, y, rfl, hx, hy⟩ := Rs2 hr
    cases z <;> cases x <;> cases y <;> simp only [ends3, Option.isSome, reduceCtorEq, Option.some.injEq, Prod.mk.injEq] at he
    obtain ⟨rfl, rfl, rfl, hq⟩ := he
    generalize hV : ev hi = V at hx
    generalize hW : ev mx = W at hy
    generalize hU : ev a = U at hz
    cases hx; cases hy; cases hz
    simp only [Bool.and_eq_true, decide_eq_true_eq] at hq
    refine ⟨?_, by omega, by omega, by omega⟩
    simp only [Option.map_some, hU, Sem.run_bind, Sem.run_pure, Result.andThen_ok]
    rw [sliceBound_ok hq.1.1.1.1.1 (by omega)]
    simp only [Result.andThen_ok]
    rw [sliceBound_ok hq.1.1.1.2 (by omega)]
    simp only [Result.andThen_ok]
    rw [sliceBound_ok hq.1.2 (by omega)]
    simp only [Result.andThen_ok]
theorem slM_gives {v : AV} {sy : Bool} {t e : TypeId} {i : TypeInfo} {x : Operand} {lo : Option Operand} {hi mx : Operand} {vs : List AV} (ht : P.underlying t = some (.slice e)) (hi' : P.info? e = some i)
    (hx : execK sy (.slM i.size lo.isSome) vs = some (v, true)) (hR : Rs ρ vs ((x :: (lo.toList ++ [hi, mx])).map ev)) :
    ∃ V, R ρ v V ∧ ∀ w, (Instr.sliceAt t (ev x) (lo.map ev) (some (ev hi)) (some (ev mx))).run P w = .ok V w := by
  obtain ⟨y, r, rfl, hy, hr⟩ := RsC hR
  generalize hX : ev x = X at hy
  have red : ∀ w, (Instr.sliceAt t X (lo.map ev) (some (ev hi)) (some (ev mx))).run P w = (Instr.slice t X (lo.map ev) (some (ev hi)) (some (ev mx))).run P w := fun w => by
    unfold Instr.sliceAt
    simp only [Sem.run_bind, r_und ht, Result.andThen_ok]
  cases y <;> simp only [execK, reduceCtorEq] at hx
  · split at hx
    · rename_i l h m q he
      simp only [Option.some.injEq, Prod.mk.injEq] at hx
      obtain ⟨rfl, hq⟩ := hx
      cases hy
      refine ⟨_, .nils, fun w => ?_⟩
      rw [red]
      unfold Instr.slice
      obtain ⟨e1, e2, e3, e4⟩ := ends3_gives (P := P) (w := w) (isS := true) (len := 0) (most := 0) (mostA := 0) hr he hq (Nat.le_refl _)
      simp only [Sem.run_bind, r_und ht, Result.andThen_ok, e1, r_size hi', Sem.run_pure]
      have m0 : m = 0 := by omega
      have h0 : h = 0 := by omega
      have l0 : l = 0 := by omega
      subst m0; subst h0; subst l0
      simp
    · cases hx
  · rename_i id off len cap
    cases cap with
    | fix c =>
      simp only [] at hx
      split at hx
      · rename_i l h m q he
        simp only [Option.some.injEq, Prod.mk.injEq] at hx
        obtain ⟨rfl, hq⟩ := hx
        cases hy with
        | sl hid hl =>
          have hends : ∀ w, _ := fun w => ends3_gives (P := P) (w := w) (isS := true) (len := len) (most := c) (mostA := c) hr he hq (Nat.le_refl _)
          obtain ⟨_, e2, e3, e4⟩ := hends default
          by_cases hcl : m = l
          · subst hcl
            simp only [if_true]
            refine ⟨_, R.sl (cap := .fix (m - m)) (by exact hid) (by simp only [ACap.of]; omega), fun w => ?_⟩
            rw [red]
            unfold Instr.slice
            simp only [ACap.of, Sem.run_bind, r_und ht, Result.andThen_ok, (hends w).1, r_size hi', Sem.run_pure, if_true]
          · refine ⟨_, R.sl (cap := .fix (m - l)) (by exact hid) (by simp only [ACap.of]; omega), fun w => ?_⟩
            rw [red]
            unfold Instr.slice
            simp only [ACap.of, Sem.run_bind, r_und ht, Result.andThen_ok, (hends w).1, r_size hi', Sem.run_pure, hcl, if_false, Option.map_some, addr_add, Nat.add_assoc]
      · cases hx
    | rest z' =>
      simp only [] at hx
      split at hx
      · rename_i l h m q he
        have hq : q = true := by split at hx <;> (simp only [Option.some.injEq, Prod.mk.injEq] at hx; exact hx.2)
        cases hy with
        | sl hid hl =>
          rename_i e0
          have hends : ∀ w, _ := fun w => ends3_gives (P := P) (w := w) (isS := true) (len := len) (most := (ACap.rest z').of off e0.tot) (mostA := len) hr he hq hl
          obtain ⟨_, e2, e3, e4⟩ := hends default
          split at hx
          · rename_i hb
            have hml := Nat.eq_of_beq_eq_true hb
            subst hml
            cases hx
            refine ⟨_, R.sl0 (o := e0.dl + off) hid, fun w => ?_⟩
            rw [red]
            unfold Instr.slice
            have h0 : h = m := by omega
            subst h0
            simp only [Sem.run_bind, r_und ht, Result.andThen_ok, (hends w).1, r_size hi', Sem.run_pure, if_true, Nat.sub_self]
          · rename_i hb
            have hml : ¬ m = l := Nat.ne_of_beq_eq_false hb
            cases hx
            refine ⟨_, R.sl (cap := .fix (m - l)) (by exact hid) (by simp only [ACap.of]; omega), fun w => ?_⟩
            rw [red]
            unfold Instr.slice
            simp only [Sem.run_bind, r_und ht, Result.andThen_ok, (hends w).1, r_size hi', Sem.run_pure, hml, if_false, Option.map_some, addr_add, Nat.add_assoc]
            rfl
        | sl0 hid =>
          rename_i o0 e0
          have hends : ∀ w, _ := fun w => ends3_gives (P := P) (w := w) (isS := true) (len := 0) (most := 0) (mostA := 0) hr he hq (Nat.le_refl _)
          obtain ⟨_, e2, e3, e4⟩ := hends default
          have m0 : m = 0 := by omega
          have h0 : h = 0 := by omega
          have l0 : l = 0 := by omega
          subst m0; subst h0; subst l0
          simp only [show Nat.beq 0 0 = true from rfl] at hx
          cases hx
          refine ⟨.slice (some ⟨e0.blk, o0, none⟩) 0 0, R.sl0 hid, fun w => ?_⟩
          rw [red]
          unfold Instr.slice
          simp only [Sem.run_bind, r_und ht, Result.andThen_ok, (hends w).1, r_size hi', Sem.run_pure, if_true, Nat.sub_self]
      · cases hx

/-! ### builtins -/
theorem call_builtin {o : Oper} {c : Call} {b : Builtin} (hb : c.callee = .builtin b) (w : World) :
    (do let d ← resolve ev c o.type; invoke d.target d.args : Sem Next).run P w =
      (builtin b c.argTypes o.type (c.args.map fun | .const _ => true | _ => false) (c.args.map ev)).run P w := by
  simp only [Sem.run_bind, resolve, hb, Sem.run_pure, Result.andThen_ok, invoke]
  rfl

theorem args_one {c : Array Operand} {vs : List AV} (hR : Rs ρ vs (c.toList.map ev)) {x : AV} (h : vs = [x]) : ∃ X, (c.map ev)[0]? = some X ∧ R ρ x X := by
  subst h
  cases hl : c.toList with
  | nil => rw [hl] at hR; cases hR
  | cons a r =>
    rw [hl] at hR
    obtain ⟨y, l, e, hy, hr⟩ := RsC hR
    cases e
    exact ⟨ev a, by
      have : c[0]? = some a := by rw [← Array.getElem?_toList, hl]; rfl
      simp [this], hy⟩

theorem minL_gives {k : IntKind} : ∀ {r : List AV} {rs : List Value} {a : Int} {v : AV}, minL k a r = some v → Rs ρ r rs → ∃ V, R ρ v V ∧ ∀ w, (rs.foldlM Builtin.min2 (.int k a)).run P w = .ok V w
  | [], _, a, v, h, hR => by
    cases hR; simp only [minL, Option.some.injEq] at h; subst h
    exact ⟨_, .int _ _, fun w => by simp [List.foldlM]⟩
  | x :: r, _, a, v, h, hR => by
    cases hR with
    | cons hx hs =>
      cases x <;> simp only [minL, reduceCtorEq] at h
      cases hx
      obtain ⟨V, hV, hr⟩ := minL_gives h hs
      exact ⟨V, hV, fun w => by simp only [List.foldlM, Builtin.min2, pure_bind, hr]⟩
theorem maxL_gives {k : IntKind} : ∀ {r : List AV} {rs : List Value} {a : Int} {v : AV}, maxL k a r = some v → Rs ρ r rs → ∃ V, R ρ v V ∧ ∀ w, (rs.foldlM Builtin.max2 (.int k a)).run P w = .ok V w
  | [], _, a, v, h, hR => by
    cases hR; simp only [maxL, Option.some.injEq] at h; subst h
    exact ⟨_, .int _ _, fun w => by simp [List.foldlM]⟩
  | x :: r, _, a, v, h, hR => by
    cases hR with
    | cons hx hs =>
      cases x <;> simp only [maxL, reduceCtorEq] at h
      cases hx
      obtain ⟨V, hV, hr⟩ := maxL_gives h hs
      exact ⟨V, hV, fun w => by simp only [List.foldlM, Builtin.max2, pure_bind, hr]⟩

theorem minX_gives {k : IntKind} : ∀ {r : List AV} {rs : List Value} {a v : Sx}, minX k a r = some v → Rs ρ r rs → ∀ w, (rs.foldlM Builtin.min2 (.int k (a.den E.default.i))).run P w = .ok (.int k (v.den E.default.i)) w
  | [], _, a, v, h, hR, w => by
    cases hR; simp only [minX, Option.some.injEq] at h; subst h
    simp [List.foldlM]
  | x :: r, _, a, v, h, hR, w => by
    cases hR with
    | cons hx hs =>
      simp only [minX] at h
      split at h <;> (try (cases h; done))
      rename_i k' b hb
      rw [asS_R hb hx]
      split at h <;> (try (cases h; done))
      · rename_i hc
        have h1 := cmpS_ok hc
        simp only [cmpI, Option.some.injEq, decide_eq_true_eq] at h1
        have := minX_gives h hs w
        simpa only [List.foldlM, Builtin.min2, pure_bind, if_pos h1] using this
      · rename_i hc
        have h1 := cmpS_ok hc
        simp only [cmpI, Option.some.injEq, decide_eq_false_iff_not] at h1
        have := minX_gives h hs w
        simpa only [List.foldlM, Builtin.min2, pure_bind, if_neg h1] using this
      · have := minX_gives h hs w
        have e : (if b.den E.default.i < a.den E.default.i then b.den E.default.i else a.den E.default.i) = (Sx.mn a b).den E.default.i := by
          simp only [Sx.den]; split <;> omega
        simpa only [List.foldlM, Builtin.min2, pure_bind, e] using this
theorem maxX_gives {k : IntKind} : ∀ {r : List AV} {rs : List Value} {a v : Sx}, maxX k a r = some v → Rs ρ r rs → ∀ w, (rs.foldlM Builtin.max2 (.int k (a.den E.default.i))).run P w = .ok (.int k (v.den E.default.i)) w
  | [], _, a, v, h, hR, w => by
    cases hR; simp only [maxX, Option.some.injEq] at h; subst h
    simp [List.foldlM]
  | x :: r, _, a, v, h, hR, w => by
    cases hR with
    | cons hx hs =>
      simp only [maxX] at h
      split at h <;> (try (cases h; done))
      rename_i k' b hb
      rw [asS_R hb hx]
      split at h <;> (try (cases h; done))
      · rename_i hc
        have h1 := cmpS_ok hc
        simp only [cmpI, Option.some.injEq, decide_eq_true_eq] at h1
        have := maxX_gives h hs w
        simpa only [List.foldlM, Builtin.max2, pure_bind, if_pos h1] using this
      · rename_i hc
        have h1 := cmpS_ok hc
        simp only [cmpI, Option.some.injEq, decide_eq_false_iff_not] at h1
        have := maxX_gives h hs w
        simpa only [List.foldlM, Builtin.max2, pure_bind, if_neg h1] using this
      · have := maxX_gives h hs w
        have e : (if b.den E.default.i > a.den E.default.i then b.den E.default.i else a.den E.default.i) = (Sx.mx a b).den E.default.i := by
          simp only [Sx.den]; split <;> omega
        simpa only [List.foldlM, Builtin.max2, pure_bind, e] using this
theorem minA_gives {y : AV} {r : List AV} {X : Value} {Xs : List Value} {v : AV} (h : minA (y :: r) = some v) (hy : R ρ y X) (hr : Rs ρ r Xs) : ∃ V, R ρ v V ∧ ∀ w, (Xs.foldlM Builtin.min2 X).run P w = .ok V w := by
  unfold minA at h
  split at h <;> (try (cases h; done))
  · rename_i k a r' he
    cases he
    cases hy
    split at h
    · rename_i u hu; cases h; exact minL_gives (P := P) hu hr
    · simp only [Option.map_eq_some_iff] at h
      obtain ⟨u, hu, rfl⟩ := h
      exact ⟨_, ofS_R _ _ _, minX_gives (P := P) hu hr⟩
  · rename_i k a r' he
    cases he
    cases hy
    simp only [Option.map_eq_some_iff] at h
    obtain ⟨u, hu, rfl⟩ := h
    exact ⟨_, ofS_R _ _ _, minX_gives (P := P) hu hr⟩
theorem maxA_gives {y : AV} {r : List AV} {X : Value} {Xs : List Value} {v : AV} (h : maxA (y :: r) = some v) (hy : R ρ y X) (hr : Rs ρ r Xs) : ∃ V, R ρ v V ∧ ∀ w, (Xs.foldlM Builtin.max2 X).run P w = .ok V w := by
  unfold maxA at h
  split at h <;> (try (cases h; done))
  · rename_i k a r' he
    cases he
    cases hy
    split at h
    · rename_i u hu; cases h; exact maxL_gives (P := P) hu hr
    · simp only [Option.map_eq_some_iff] at h
      obtain ⟨u, hu, rfl⟩ := h
      exact ⟨_, ofS_R _ _ _, maxX_gives (P := P) hu hr⟩
  · rename_i k a r' he
    cases he
    cases hy
    simp only [Option.map_eq_some_iff] at h
    obtain ⟨u, hu, rfl⟩ := h
    exact ⟨_, ofS_R _ _ _, maxX_gives (P := P) hu hr⟩

theorem compB_gives {b : Builtin} {ts : Array TypeId} {t : TypeId} {cs : Array Bool} {args : Array Operand} {pk : PK} {xs : List Operand} {sy : Bool} {vs : List AV} {v : AV}
    (hc : compB P b ts args.toList = some (pk, xs)) (hx : execK sy pk vs = some (v, true)) (hR : Rs ρ vs (xs.map ev)) :
    ∃ V, R ρ v V ∧ Gives P (builtin b ts t cs (args.map ev)) V := by
  unfold compB at hc
  split at hc
  -- len
  · split at hc
    · rename_i t0 ht0
      split at hc <;> cases hc
      · rename_i hu
        cases vs with
        | nil => simp only [execK, reduceCtorEq] at hx
        | cons y r =>
          cases y <;> cases r <;> simp only [execK, Option.some.injEq, Prod.mk.injEq, reduceCtorEq] at hx
          obtain ⟨rfl, -⟩ := hx
          obtain ⟨X, hX, hR1⟩ := args_one hR rfl
          cases hR1
          exact ⟨_, .int _ _, gives_v fun w => by unfold Builtin.len_; simp [ht0, hX, r_und hu, bs_size, goInt]⟩
      · rename_i hu
        cases vs with
        | nil => simp only [execK, reduceCtorEq] at hx
        | cons y r =>
          cases y <;> cases r <;> simp only [execK, Option.some.injEq, Prod.mk.injEq, reduceCtorEq] at hx
          · obtain ⟨rfl, -⟩ := hx
            obtain ⟨X, hX, hR1⟩ := args_one hR rfl
            cases hR1
            exact ⟨_, .int _ _, gives_v fun w => by unfold Builtin.len_; simp [ht0, hX, r_und hu, goInt]⟩
          · obtain ⟨rfl, -⟩ := hx
            obtain ⟨X, hX, hR1⟩ := args_one hR rfl
            cases hR1 <;> exact ⟨_, .int _ _, gives_v fun w => by unfold Builtin.len_; simp [ht0, hX, r_und hu, goInt]⟩
      · rename_i n e hu
        cases vs with
        | nil => simp only [execK, reduceCtorEq] at hx
        | cons y r =>
          cases r <;> simp only [execK, Option.some.injEq, Prod.mk.injEq, reduceCtorEq] at hx
          obtain ⟨rfl, -⟩ := hx
          obtain ⟨X, hX, hR1⟩ := args_one hR rfl
          exact ⟨_, .int _ _, gives_v fun w => by unfold Builtin.len_; simp [ht0, hX, r_und hu, goInt]⟩
    · cases hc
  -- cap
  · split at hc
    · rename_i t0 ht0
      split at hc <;> cases hc
      rename_i hu
      cases vs with
      | nil => simp only [execK, reduceCtorEq] at hx
      | cons y r =>
        cases y <;> cases r <;> simp only [execK, Option.some.injEq, Prod.mk.injEq, reduceCtorEq] at hx
        · obtain ⟨rfl, -⟩ := hx
          obtain ⟨X, hX, hR1⟩ := args_one hR rfl
          cases hR1
          exact ⟨_, .int _ _, gives_v fun w => by unfold Builtin.cap_; simp [ht0, hX, r_und hu, goInt]⟩
        · rename_i id off len cap
          cases cap <;> simp only [execK, Option.some.injEq, Prod.mk.injEq, reduceCtorEq] at hx
          obtain ⟨rfl, -⟩ := hx
          obtain ⟨X, hX, hR1⟩ := args_one hR rfl
          cases hR1
          exact ⟨_, .int _ _, gives_v fun w => by unfold Builtin.cap_; simp [ht0, hX, r_und hu, goInt, ACap.of]⟩
    · cases hc
  -- min
  · cases hc
    simp only [execK, Option.map_eq_some_iff, Prod.mk.injEq] at hx
    obtain ⟨u, hu, rfl, -⟩ := hx
    cases vs with
    | nil => simp [minA] at hu
    | cons y r =>
      cases hl : args.toList with
      | nil => rw [hl] at hR; cases hR
      | cons a l =>
        rw [hl] at hR
        obtain ⟨y, r', e, hy, hr⟩ := RsC hR
        cases e
        obtain ⟨V, hV, hrun⟩ := minA_gives (P := P) hu hy hr
        exact ⟨V, hV, gives_v fun w => by unfold Builtin.min_; simp [hl, hrun]⟩
  -- max
  · cases hc
    simp only [execK, Option.map_eq_some_iff, Prod.mk.injEq] at hx
    obtain ⟨u, hu, rfl, -⟩ := hx
    cases vs with
    | nil => simp [maxA] at hu
    | cons y r =>
      cases hl : args.toList with
      | nil => rw [hl] at hR; cases hR
      | cons a l =>
        rw [hl] at hR
        obtain ⟨y, r', e, hy, hr⟩ := RsC hR
        cases e
        obtain ⟨V, hV, hrun⟩ := maxA_gives (P := P) hu hy hr
        exact ⟨V, hV, gives_v fun w => by unfold Builtin.max_; simp [hl, hrun]⟩
  · cases hc

/-! ### aggregates -/
def overV : List Value → Nat → List Value → List Value
  | cs, _, [] => cs
  | cs, i, v :: r => overV (cs.set i v) (i + 1) r
theorem Rs_over : ∀ {u : List AV} {U : List Value} {cs : List AV} {Cs : List Value} (i : Nat), Rs ρ cs Cs → Rs ρ u U → Rs ρ (overL cs i u) (overV Cs i U)
  | [], _, _, _, i, h, hu => by cases hu; exact h
  | x :: r, _, _, _, i, h, hu => by
    cases hu with
    | cons hx hr => exact Rs_over (i + 1) (Rs.set i h hx) hr
theorem fold_over (off : Nat) : ∀ (U : List Value) (k : Nat) (A : Array Value),
    ((U.zipIdx k).foldl (fun cs (x : Value × Nat) => cs.setIfInBounds (off + x.2) x.1) A).toList = overV A.toList (off + k) U
  | [], k, A => by simp [overV]
  | x :: r, k, A => by
    simp only [List.zipIdx_cons, List.foldl_cons]
    rw [fold_over off r (k + 1)]
    simp [overV, Nat.add_assoc]
theorem R_cells {v : AV} {V : Value} (h : R ρ v V) : Rs ρ (cellsA v) V.cells.toList := by
  cases v with
  | agg cs => cases h with | agg hc => exact hc
  | ov i => cases h; rw [(E.default.vo i).1]; exact Rs.one (.ov i)
  | _ => (have h0 := h; cases h <;> exact Rs.one h0)
theorem fill_gives (place : Nat → Option (Nat × Nat)) : ∀ {ps : List (Nat × Nat)} {is : List Nat} {vs : List AV} {Vs : List Value} {cs : List AV} {Cs : List Value} {out : List AV},
    ps.length = is.length → (∀ (n : Nat) i p, is[n]? = some i → ps[n]? = some p → place i = some p) → Rs ρ vs Vs → Vs.length = is.length → Rs ρ cs Cs → fillL cs ps vs = some out →
    ∃ Out, Rs ρ out Out ∧ Instr.fill place ⟨Cs⟩ (is.zip Vs) = some ⟨Out⟩
  | [], is, vs, Vs, cs, Cs, out, hl, hp, hv, hvl, hc, hf => by
    cases is with
    | cons _ _ => simp at hl
    | nil =>
      cases hv with
      | cons _ _ => simp at hvl
      | nil => simp only [fillL, Option.some.injEq] at hf; subst hf; exact ⟨Cs, hc, rfl⟩
  | (off, sz) :: ps, is, vs, Vs, cs, Cs, out, hl, hp, hv, hvl, hc, hf => by
    cases is with
    | nil => simp at hl
    | cons i is =>
      cases hv with
      | nil => simp at hvl
      | cons hx hs =>
        rename_i v V vs Vs
        simp only [fillL] at hf
        split at hf
        · rename_i hb
          simp only [Bool.and_eq_true] at hb
          have hb1 := Nat.eq_of_beq_eq_true hb.1
          have hb2 := Nat.le_of_ble_eq_true hb.2
          have hcells := R_cells hx
          have hover := Rs_over off hc hcells
          have hlen := hcells.length
          have hcl := hc.length
          obtain ⟨Out, hO, hfi⟩ := fill_gives place (ps := ps) (is := is) (by simpa using hl) (fun n i' p h1 h2 => hp (n + 1) i' p (by simpa using h1) (by simpa using h2)) hs (by simpa using hvl) hover hf
          refine ⟨Out, hO, ?_⟩
          have hpl := hp 0 i (off, sz) rfl rfl
          simp only [List.zip_cons_cons, Instr.fill, hpl]
          have hsz : V.cells.size = sz := by
            rw [← Array.length_toList, ← hlen, hb1]
          have hcond : (decide (V.cells.size ≠ sz) || decide (off + V.cells.size > (⟨Cs⟩ : Array Value).size)) = false := by
            have : (⟨Cs⟩ : Array Value).size = Cs.length := rfl
            rw [this, ← hcl, hsz]
            simp; omega
          rw [if_neg (by rw [hcond]; simp)]
          rw [← hfi]
          congr 1
          apply Array.toList_inj.1
          rw [← Array.foldl_toList, Array.toList_zipIdx]
          exact fold_over off V.cells.toList 0 ⟨Cs⟩
        · cases hf

theorem run_places {w : World} : ∀ {fs : List Field} {ps : List (Nat × Nat)}, allPlaces P fs = some ps →
    (fs.mapM (m := Sem) fun f => do pure (f.offset, ← sizeOf f.type)).run P w = .ok ps w
  | [], ps, h => by simp only [allPlaces, Option.some.injEq] at h; subst h; rfl
  | f :: r, ps, h => by
    simp only [allPlaces] at h
    split at h
    · rename_i g l hg hl
      cases h
      simp only [List.mapM_cons, Sem.run_bind, r_size hg, Result.andThen_ok, Sem.run_pure, run_places hl]
    · cases h
theorem pickL_get : ∀ {al : List (Nat × Nat)} {is : List Nat} {ps : List (Nat × Nat)}, pickL al is = some ps → ps.length = is.length ∧ ∀ (n : Nat) i p, is[n]? = some i → ps[n]? = some p → al[i]? = some p
  | al, [], ps, h => by simp only [pickL, Option.some.injEq] at h; subst h; simp
  | al, i :: r, ps, h => by
    simp only [pickL] at h
    split at h
    · rename_i p l hp hl
      cases h
      obtain ⟨h1, h2⟩ := pickL_get hl
      refine ⟨by simp [h1], fun n j q hj hq => ?_⟩
      cases n with
      | zero => simp at hj hq; subst hj; subst hq; exact hp
      | succ n => exact h2 n j q (by simpa using hj) (by simpa using hq)
    · cases h
theorem placesA_get (sz : Nat) : ∀ (is : List Nat), (placesA sz is).length = is.length ∧ ∀ (n : Nat) i p, is[n]? = some i → (placesA sz is)[n]? = some p → some (i * sz, sz) = some p
  | [] => by simp [placesA]
  | i :: r => by
    obtain ⟨h1, h2⟩ := placesA_get sz r
    refine ⟨by simp [placesA, h1], fun n j q hj hq => ?_⟩
    cases n with
    | zero => simp [placesA] at hj hq; subst hj; subst hq; rfl
    | succ n => exact h2 n j q (by simpa using hj) (by simpa [placesA] using hq)
theorem zero_gives {t : TypeId} {z : List AV} (h : zeroOf P t = some z) : ∃ Z : Value, Rs ρ z Z.cells.toList ∧ ∀ w, (zeroValue t).run P w = .ok Z w := by
  unfold zeroOf at h
  split at h
  · rename_i i hi
    split at h
    · rename_i zv hz
      exact ⟨zv, Rs_ofLeafs h, fun w => r_zero hi hz⟩
    · cases h
  · cases h
theorem build_gives {t : TypeId} {parts : Array (Nat × Operand)} {pk : PK} {xs : List Operand} {sy : Bool} {vs : List AV} {v : AV}
    (hc : compP P (.build t parts) = some (pk, xs)) (hx : execK sy pk vs = some (v, true)) (hR : Rs ρ vs (xs.map ev)) :
    ∃ V, R ρ v V ∧ ∀ w, (Instr.build t (parts.map fun (i, x) => (i, ev x))).run P w = .ok V w := by
  simp only [compP] at hc
  split at hc
  · rename_i z hz
    obtain ⟨Z, hZ, hzr⟩ := zero_gives (ρ := ρ) hz
    have hzip : (parts.map fun (x : Nat × Operand) => (x.1, ev x.2)).toList = (parts.toList.map (·.1)).zip ((parts.toList.map (·.2)).map ev) := by
      rw [Array.toList_map, List.map_map, List.zip_map']; simp [Function.comp_def]
    have hlen : ((parts.toList.map (·.2)).map ev).length = (parts.toList.map (·.1)).length := by simp
    split at hc
    · rename_i fs hu
      split at hc
      · rename_i al hal
        split at hc
        · rename_i ps hps
          cases hc
          simp only [execK, Option.map_eq_some_iff, Prod.mk.injEq] at hx
          obtain ⟨out, hf, rfl, -⟩ := hx
          obtain ⟨h1, h2⟩ := pickL_get hps
          obtain ⟨Out, hO, hfi⟩ := fill_gives (ρ := ρ) (fun i => al[i]?) h1 h2 hR hlen hZ hf
          refine ⟨_, .agg hO, fun w => ?_⟩
          unfold Instr.build
          simp only [Sem.run_bind, hzr, Result.andThen_ok, r_und hu, Array.mapM_eq_mapM_toList, Sem.run_map, run_places hal, hzip, List.getElem?_toArray]
          simp only [hfi, Sem.run_pure]
        · cases hc
      · cases hc
    · rename_i n e hu
      split at hc
      · rename_i j hj
        cases hc
        simp only [execK, Option.map_eq_some_iff, Prod.mk.injEq] at hx
        obtain ⟨out, hf, rfl, -⟩ := hx
        obtain ⟨h1, h2⟩ := placesA_get j.size (parts.toList.map (·.1))
        obtain ⟨Out, hO, hfi⟩ := fill_gives (ρ := ρ) (fun i => some (i * j.size, j.size)) h1 h2 hR hlen hZ hf
        refine ⟨_, .agg hO, fun w => ?_⟩
        unfold Instr.build
        simp only [Sem.run_bind, hzr, Result.andThen_ok, r_und hu, r_size hj, hzip]
        simp only [hfi, Sem.run_pure]
      · cases hc
    · cases hc
  · cases hc

/-- ALL OPERATIONS THAT TOUCH NO MEMORY. -/
theorem compP_gives {o : Oper} {pk : PK} {xs : List Operand} {sy : Bool} {vs : List AV} {v : AV}
    (hc : compP P o.op = some (pk, xs)) (hx : execK sy pk vs = some (v, true)) (hR : Rs ρ vs (xs.map ev)) :
    ∃ V, R ρ v V ∧ Gives P (execOp ev o) V := by
  unfold execOp
  cases hop : o.op <;> rw [hop] at hc <;> simp only [] <;> (try (simp only [compP, reduceCtorEq] at hc; done))
  case move x => cases hc; exact ⟨_, mv_gives hx hR, fun w => rfl⟩
  case assign x => cases hc; exact ⟨_, mv_gives hx hR, fun w => rfl⟩
  case build t parts =>
    obtain ⟨V, hV, hr⟩ := build_gives hc hx hR
    exact ⟨V, hV, gives_v hr⟩
  case nilCheck x =>
    cases hc
    obtain ⟨h1, h2⟩ := nilck_gives hx hR
    refine ⟨_, h1, fun w => ?_⟩
    rcases h2 with ⟨a, ha⟩ | ⟨f, a, b, ha⟩ | ⟨l, a, b, ha⟩ <;> simp only [ha] <;> rfl
  case binOp op t x y u =>
    simp only [compP, Option.map_eq_some_iff, Prod.mk.injEq] at hc
    obtain ⟨c, hcl, rfl, rfl⟩ := hc
    obtain ⟨a, b, rfl, ha, hb⟩ := Rs2 hR
    obtain ⟨V, hV, hr⟩ := bin_gives hcl hx ha hb (fun _ _ => trivial)
    exact ⟨V, hV, gives_v hr⟩
  case unOp op t x =>
    simp only [compP] at hc
    have : ∃ V, R ρ v V ∧ ∀ w, (Op.unary op (ev x)).run P w = .ok V w := by
      cases op <;> cases hc
      · exact un_gives (op := .neg) rfl (by simp) hx hR
      · exact un_gives (op := .xor) rfl (by simp) hx hR
      · exact un_gives (op := .not) rfl (by simp) hx hR
    obtain ⟨V, hV, hr⟩ := this
    exact ⟨V, hV, gives_v hr⟩
  case convert s d x =>
    simp only [compP] at hc
    split at hc <;> cases hc
    · rename_i hs hd
      obtain ⟨V, hV, hr⟩ := conv_gives hs hd hx hR
      exact ⟨V, hV, gives_v hr⟩
    · rename_i hs hd
      obtain ⟨V, hV, hr⟩ := convS_gives hs hd hx hR
      exact ⟨V, hV, gives_v hr⟩
  case makeInterface t x =>
    simp only [compP] at hc
    split at hc <;> cases hc
    rename_i d hd hs
    obtain ⟨V, hV, hr⟩ := mkI_gives hs (fun m h => hd m (by rw [h])) hx hR
    exact ⟨V, hV, gives_v hr⟩
  case makeFunc fn A B =>
    cases fn <;> simp only [compP, reduceCtorEq] at hc
    cases hc
    obtain ⟨V, hV, hr⟩ := mkF_gives (P := P) hx hR
    exact ⟨V, hV, gives_v hr⟩
  case slice t x lo hi mx =>
    cases mx
    case some mx =>
      cases hi <;> simp only [compP, reduceCtorEq] at hc
      rename_i hi
      split at hc <;> (try cases hc)
      rename_i e hu
      split at hc <;> cases hc
      rename_i i hi'
      obtain ⟨V, hV, hr⟩ := slM_gives hu hi' hx hR
      exact ⟨V, hV, gives_v hr⟩
    simp only [compP] at hc
    split at hc
    · cases hc
      rename_i hu
      obtain ⟨V, hV, hr⟩ := slS_gives hu hx hR
      exact ⟨V, hV, gives_v hr⟩
    · split at hc <;> cases hc
      rename_i hu _ i hi
      obtain ⟨V, hV, hr⟩ := slL_gives hu hi hx hR
      exact ⟨V, hV, gives_v hr⟩
    · split at hc <;> cases hc
      rename_i hu _ i hi
      obtain ⟨V, hV, hr⟩ := slA_gives hu hi hx hR
      exact ⟨V, hV, gives_v hr⟩
    · cases hc
  case fieldAddr s x f =>
    simp only [compP] at hc
    split at hc <;> (try cases hc)
    rename_i fs hs
    split at hc <;> (try cases hc)
    rename_i fd hf
    split at hc <;> (try cases hc)
    rename_i i hi
    split at hc <;> cases hc
    rename_i h0
    obtain ⟨V, hV, hr⟩ := fa_gives hs hf hi h0 hx hR
    exact ⟨V, hV, gives_v hr⟩
  case field s x f =>
    simp only [compP] at hc
    split at hc <;> (try cases hc)
    rename_i fs hs
    split at hc <;> (try cases hc)
    rename_i fd hf
    split at hc <;> cases hc
    rename_i i d hi hd
    obtain ⟨V, hV, hr⟩ := fld_gives hs hf hi hd hx hR
    exact ⟨V, hV, gives_v hr⟩
  case indexAddr t x i =>
    simp only [compP] at hc
    split at hc <;> (try cases hc)
    · split at hc <;> cases hc
      rename_i hu _ j hj
      obtain ⟨V, hV, hr⟩ := iaS_gives hu hj hx hR
      exact ⟨V, hV, gives_v hr⟩
    · split at hc <;> cases hc
      rename_i hu _ j hj
      obtain ⟨V, hV, hr⟩ := iaA_gives hu hj hx hR
      exact ⟨V, hV, gives_v hr⟩
  case index t x i =>
    simp only [compP] at hc
    split at hc <;> (try cases hc)
    · rename_i hu
      obtain ⟨V, hV, hr⟩ := ixS_gives hu hx hR
      exact ⟨V, hV, gives_v hr⟩
    · split at hc <;> cases hc
      rename_i hu _ _ j d hj hd
      obtain ⟨V, hV, hr⟩ := ixA_gives hu hj hd hx hR
      exact ⟨V, hV, gives_v hr⟩
  case extract x i =>
    cases hc
    obtain ⟨V, hV, hr⟩ := ext_gives (P := P) hx hR
    exact ⟨V, hV, gives_v hr⟩
  case call c =>
    simp only [compP] at hc
    split at hc <;> (try cases hc)
    rename_i b hb
    obtain ⟨V, hV, hr⟩ := compB_gives (t := o.type) (cs := c.args.map fun | .const _ => true | _ => false) hc hx hR
    refine ⟨V, hV, fun w => ?_⟩
    rw [call_builtin hb]; exact hr w
end
end Ev
end Go.Proofs.YtakgohocimlagaaGreat
