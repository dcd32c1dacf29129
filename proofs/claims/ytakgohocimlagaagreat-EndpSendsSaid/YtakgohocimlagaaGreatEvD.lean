/-
  An evaluator over plain data (4): the operations that touch no memory: the model's run gives what the evaluation gives. Of no program. No condition.
-/
import Derived.Test.YtakgohocimlagaaGreatEvC
namespace Go.Proofs.YtakgohocimlagaaGreat
namespace Ev
variable [E : Inhabited EnvT]
set_option linter.unusedVariables false
set_option linter.unusedSectionVars false
set_option linter.unusedSimpArgs false
open Go.RowKit

/-- the run of an operation gives this value, and leaves the world -/
def Gives (P : Program) (s : Sem Next) (V : Value) : Prop := ∀ w, s.run P w = .ok (.value V) w

theorem gives_v {P : Program} {s : Sem Value} {V : Value} (h : ∀ w, s.run P w = .ok V w) : Gives P (do pure (.value (← s))) V := fun w => by
  simp [h w]

theorem eqGuard_other {op : BinOp} {t : TypeId} {x y : Operand} {a b : Value} {P : Program} {w : World} (h1 : a ≠ .nilIface ∨ b ≠ .nilIface) (h2 : ∀ xs ys, a ≠ .agg xs ∨ b ≠ .agg ys) :
    (eqGuard op t x y a b).run P w = .ok () w := by
  unfold eqGuard
  split <;> simp only [Bool.not_true, Bool.not_false, Bool.false_eq_true, if_false, if_true, Sem.run_pure]
  all_goals
    split
    · simp at h1
    · rename_i xs ys; have := h2 xs ys; simp at this
    · rfl

theorem eqGuard_nil {op : BinOp} {t : TypeId} {x y : Operand} {P : Program} {w : World} (h : isConstO x = true ∨ isConstO y = true) :
    (eqGuard op t x y .nilIface .nilIface).run P w = .ok () w := by
  unfold eqGuard
  split <;> simp only [Bool.not_true, Bool.not_false, Bool.false_eq_true, if_false, if_true, Sem.run_pure]
  all_goals (cases x <;> cases y <;> simp [isConstO] at h ⊢)
theorem arith_gives {P : Program} {sy : Bool} {op : BinOp} {k : IntKind} {a b : Int} {v : AV} (hop : op ≠ .shl ∧ op ≠ .shr) (h : binI sy op k a b = some (v, true)) (t : TypeId) (ρ : Mp) :
    ∃ V, R ρ v V ∧ ∀ w, (binOp op t (.int k a) (.int k b)).run P w = .ok V w := by
  have hM : ∀ x y : BitVec k.bits, (k.wrap ((x &&& y).toNat : Int)) = k.wrap (Int.ofNat (Nat.land x.toNat y.toNat)) := fun x y => by rw [BitVec.toNat_and]; rfl
  cases op <;> simp only [binI, Option.some.injEq, Prod.mk.injEq, reduceCtorEq] at h <;> (try (simp at hop; done)) <;> obtain ⟨rfl, h2⟩ := h
  · exact ⟨_, .int _ _, fun w => by simp [binOp, Op.intArith]⟩
  · exact ⟨_, .int _ _, fun w => by simp [binOp, Op.intArith]⟩
  · exact ⟨_, .int _ _, fun w => by simp [binOp, Op.intArith]⟩
  · have h3 : b ≠ 0 := by simpa using h2
    exact ⟨_, .int _ _, fun w => by simp [binOp, Op.intDiv, h3]⟩
  · have h3 : b ≠ 0 := by simpa using h2
    exact ⟨_, .int _ _, fun w => by simp [binOp, Op.intDiv, h3]⟩
  · exact ⟨_, .int _ _, fun w => by
      simp only [binOp, Op.intBits, ne_eq, not_true_eq_false, if_false]
      rw [Sem.run_pure, BitVec.toNat_and, toNat_ofInt, toNat_ofInt, wr_eq]; rfl⟩
  · exact ⟨_, .int _ _, fun w => by
      simp only [binOp, Op.intBits, ne_eq, not_true_eq_false, if_false]
      rw [Sem.run_pure, BitVec.toNat_or, toNat_ofInt, toNat_ofInt, wr_eq]; rfl⟩
  · exact ⟨_, .int _ _, fun w => by
      simp only [binOp, Op.intBits, ne_eq, not_true_eq_false, if_false]
      rw [Sem.run_pure, BitVec.toNat_xor, toNat_ofInt, toNat_ofInt, wr_eq]; rfl⟩
  · exact ⟨_, .int _ _, fun w => by
      simp only [binOp, Op.intBits, ne_eq, not_true_eq_false, if_false]
      rw [Sem.run_pure, BitVec.toNat_and, BitVec.toNat_not, toNat_ofInt, toNat_ofInt, wr_eq, two_eq]; rfl⟩
  all_goals exact ⟨_, .bool _, fun w => by simp [binOp, Op.intCmp]⟩

theorem str_gives {P : Program} {op : BinOp} {a b : List Nat} {v : AV} (h : binS op a b = some (v, true)) (t : TypeId) (ρ : Mp) :
    ∃ V, R ρ v V ∧ ∀ w, (binOp op t (.string (bs a)) (.string (bs b))).run P w = .ok V w := by
  cases op <;> simp only [binS, Option.some.injEq, Prod.mk.injEq, reduceCtorEq] at h <;> obtain ⟨rfl, h2⟩ := h
  · refine ⟨_, .str _, fun w => ?_⟩
    have h3 : ¬ (((bs a).size + (bs b).size : Nat) : Int) > IntKind.i64.max := by
      rw [bs_size, bs_size]
      have : IntKind.i64.max = 9223372036854775807 := by decide
      simp only [decide_eq_true_eq] at h2
      omega
    simp only [binOp, Op.stringOp, if_neg h3, bs_append, Sem.run_pure]
  all_goals exact ⟨_, .bool _, fun w => by simp [binOp, Op.stringOp, beqL_eq, ltL_eq]⟩

theorem eqB_inv {op : BinOp} {b : Bool} {v : AV} (h : eqB op b = some (v, true)) : (op = .eql ∧ v = .bool b) ∨ (op = .neq ∧ v = .bool (!b)) := by
  cases op <;> simp [eqB] at h <;> simp [h]

/-- what is left of an equality: the model's own 'equal' says b -/
theorem eq_gives {P : Program} {op : BinOp} {t : TypeId} {x y : Operand} {X Y : Value} {b : Bool} {v : AV} {ρ : Mp} (h : eqB op b = some (v, true))
    (hg : ∀ w, (eqGuard op t x y X Y).run P w = .ok () w) (he : ∀ w, (Op.equal t X Y).run P w = .ok b w)
    (hf : (∀ k n, X ≠ .int k n) ∧ (∀ k n, X ≠ .float k n) ∧ (∀ k n m, X ≠ .complex k n m) ∧ (∀ s, X ≠ .string s)) :
    ∃ V, R ρ v V ∧ ∀ w, (do eqGuard op t x y X Y; binOp op t X Y : Sem Value).run P w = .ok V w := by
  obtain ⟨h1, h2, h3, h4⟩ := hf
  rcases eqB_inv h with ⟨rfl, rfl⟩ | ⟨rfl, rfl⟩
  · refine ⟨_, .bool _, fun w => ?_⟩
    have : binOp .eql t X Y = (do pure (.bool (← Op.equal t X Y))) := by
      cases X <;> first | rfl | (exact absurd rfl (h1 _ _)) | (exact absurd rfl (h2 _ _)) | (exact absurd rfl (h3 _ _ _)) | (exact absurd rfl (h4 _))
    simp only [Sem.run_bind, hg, Result.andThen_ok, this, he, Sem.run_pure]
  · refine ⟨_, .bool _, fun w => ?_⟩
    have : binOp .neq t X Y = (do pure (.bool (!(← Op.equal t X Y)))) := by
      cases X <;> first | rfl | (exact absurd rfl (h1 _ _)) | (exact absurd rfl (h2 _ _)) | (exact absurd rfl (h3 _ _ _)) | (exact absurd rfl (h4 _))
    simp only [Sem.run_bind, hg, Result.andThen_ok, this, he, Sem.run_pure]

theorem cls_bool {P : Program} {t : TypeId} {x y : Operand} (h : clsOf P t x y = some .bool) : P.underlying t = some .bool := by
  unfold clsOf at h; split at h <;> (try cases h) <;> first | assumption | (obtain ⟨_, e⟩ := clsS_flat h; cases e) | (obtain ⟨_, e⟩ := clsA_flat h; cases e) | (split at h <;> (try split at h) <;> cases h)
theorem cls_ptr {P : Program} {t : TypeId} {x y : Operand} (h : clsOf P t x y = some .ptr) : ∃ e i, P.underlying t = some (.pointer e) ∧ P.info? e = some i ∧ i.size ≠ 0 := by
  unfold clsOf at h; split at h <;> (try cases h) <;> (try (obtain ⟨_, e⟩ := clsS_flat h; cases e; done)) <;> (try (obtain ⟨_, e⟩ := clsA_flat h; cases e; done)) <;> (split at h <;> (try split at h) <;> (try cases h))
  rename_i e hu _ i hi h0; exact ⟨e, i, hu, hi, h0⟩
theorem cls_slice {P : Program} {t : TypeId} {x y : Operand} (h : clsOf P t x y = some .slice) : ∃ e, P.underlying t = some (.slice e) := by
  unfold clsOf at h; split at h <;> (try cases h) <;> first | exact ⟨_, by assumption⟩ | (obtain ⟨_, e⟩ := clsS_flat h; cases e) | (obtain ⟨_, e⟩ := clsA_flat h; cases e) | (split at h <;> (try split at h) <;> cases h)
theorem cls_map {P : Program} {t : TypeId} {x y : Operand} (h : clsOf P t x y = some .map) : ∃ e f, P.underlying t = some (.map e f) := by
  unfold clsOf at h; split at h <;> (try cases h) <;> first | exact ⟨_, _, by assumption⟩ | (obtain ⟨_, e⟩ := clsS_flat h; cases e) | (obtain ⟨_, e⟩ := clsA_flat h; cases e) | (split at h <;> (try split at h) <;> cases h)
theorem cls_func {P : Program} {t : TypeId} {x y : Operand} (h : clsOf P t x y = some .func) : ∃ e f g, P.underlying t = some (.func e f g) := by
  unfold clsOf at h; split at h <;> (try cases h) <;> first | exact ⟨_, _, _, by assumption⟩ | (obtain ⟨_, e⟩ := clsS_flat h; cases e) | (obtain ⟨_, e⟩ := clsA_flat h; cases e) | (split at h <;> (try split at h) <;> cases h)
theorem cls_iface {P : Program} {t : TypeId} {x y : Operand} (h : clsOf P t x y = some .iface) : ∃ e, P.underlying t = some (.interface e) ∧ (isConstO x = true ∨ isConstO y = true) := by
  unfold clsOf at h; split at h <;> (try cases h) <;> (try (obtain ⟨_, e⟩ := clsS_flat h; cases e; done)) <;> (try (obtain ⟨_, e⟩ := clsA_flat h; cases e; done)) <;> (split at h <;> (try split at h) <;> (try cases h))
  rename_i e hu hc; exact ⟨e, hu, by simpa using hc⟩
/-! ### structs and arrays of scalars -/
theorem sc_agg {d : TypeDesc} {c : SC} (h : scOf d = some c) : isAggD d = false := by cases d <;> first | rfl | cases h
theorem beqL_bs (a b : List Nat) : (bs a == bs b) = beqL a b := by
  rw [beqL_eq, bs_toList, bs_toList]
  show ((a.map UInt8.ofNat).toArray == (b.map UInt8.ofNat).toArray) = _
  simp
theorem eq1_gives {P : Program} {ρ : Mp} {d : Nat} {t : TypeId} {dd : TypeDesc} {c : SC} {x y : AV} {V W : Value} {b : Bool} {w : World} (hd : P.underlying t = some dd) (hc : scOf dd = some c)
    (h : eq1 c x y = some b) (hx : R ρ x V) (hy : R ρ y W) : (Op.equalIn (d + 1) t V W).run P w = .ok b w := by
  unfold eq1 at h
  split at h
  · split at h <;> cases h
    rename_i hk
    subst hk
    cases hx; cases hy
    cases dd <;> simp only [scOf, Option.some.injEq, reduceCtorEq] at hc
    unfold Op.equalIn
    simp only [Sem.run_bind, r_und hd, Result.andThen_ok, if_true, Sem.run_pure]
  · cases h
    cases hx; cases hy
    cases dd <;> simp only [scOf, Option.some.injEq, reduceCtorEq] at hc
    unfold Op.equalIn
    simp only [Sem.run_bind, r_und hd, Result.andThen_ok, Sem.run_pure]
    rw [beqL_bs]
  · cases h
    cases hx; cases hy
    cases dd <;> simp only [scOf, Option.some.injEq, reduceCtorEq] at hc
    unfold Op.equalIn
    simp only [Sem.run_bind, r_und hd, Result.andThen_ok, Sem.run_pure]
  · split at h <;> (try (cases h; done))
    rename_i k a k' b' ha hb
    split at h <;> (try (cases h; done))
    rename_i hk
    obtain rfl := kin_inj (Nat.eq_of_beq_eq_true hk)
    rw [asS_R ha hx, asS_R hb hy]
    have h1 := cmpS_ok h
    simp only [cmpI, Option.some.injEq] at h1
    cases dd <;> simp only [scOf, Option.some.injEq, reduceCtorEq] at hc
    unfold Op.equalIn
    simp only [Sem.run_bind, r_und hd, Result.andThen_ok, if_true, Sem.run_pure, h1]
  · cases h
theorem part_at {P : Program} {t : TypeId} {dd : TypeDesc} {c : SC} {Xs : Array Value} {i : Nat} {X : Value} {w : World} (hd : P.underlying t = some dd) (hc : scOf dd = some c) (h : Xs[i]? = some X) :
    (part t Xs i).run P w = .ok X w := by
  unfold part
  simp only [Sem.run_bind, r_agg hd, sc_agg hc, Result.andThen_ok, Bool.false_eq_true, if_false, h, Sem.run_pure]
theorem drop_cons {Xs : Array Value} {i : Nat} {X : Value} {r : List Value} (h : Xs.toList.drop i = X :: r) : Xs[i]? = some X ∧ Xs.toList.drop (i + 1) = r := by
  constructor
  · have := congrArg (·[0]?) h
    simpa using this
  · have := congrArg List.tail h
    simpa using this
theorem fields_eq {P : Program} {ρ : Mp} {w : World} {d : Nat} {Xs Ys : Array Value} : ∀ (fs : List Field) (i : Nat) (l : List SC) (xs ys : List AV) (b : Bool), flatL P i fs = some l → eqC l xs ys = some b →
    Rs ρ xs (Xs.toList.drop i) → Rs ρ ys (Ys.toList.drop i) →
    ((forIn fs ((none, ()) : Option Bool × Unit) fun f __s =>
            if f.name ≠ "_" then do
              let a ← part f.type Xs f.offset
              let b ← part f.type Ys f.offset
              let c ← Op.equalIn (d + 1) f.type a b
              if (!c) = true then pure (ForInStep.done (some false, ())) else pure (ForInStep.yield (none, ()))
            else pure (ForInStep.yield (none, ()))) : Sem (Option Bool × Unit)).run P w = .ok (match b with | true => (none, ()) | false => (some false, ())) w
  | [], i, l, xs, ys, b, hl, he, hx, hy => by
    simp only [flatL, Option.some.injEq] at hl; subst hl
    cases xs <;> cases ys <;> simp only [eqC, Option.some.injEq, reduceCtorEq] at he
    subst he; simp
  | f :: fs, i, l, xs, ys, b, hl, he, hx, hy => by
    simp only [flatL] at hl
    split at hl <;> (try (cases hl; done))
    rename_i dd hdd
    split at hl <;> (try (cases hl; done))
    rename_i c l' hc hl'
    split at hl <;> cases hl
    rename_i hn
    have hn1 : f.name ≠ "_" := fun e => hn (.inl e)
    have hn2 : f.offset = i := by
      by_cases h : f.offset = i
      · exact h
      · exact absurd (.inr h) hn
    cases xs with
    | nil => simp [eqC] at he
    | cons x xs =>
      cases ys with
      | nil => simp [eqC] at he
      | cons y ys =>
        obtain ⟨X, Xr, hX⟩ : ∃ X Xr, Xs.toList.drop i = X :: Xr := by
          cases h : Xs.toList.drop i with
          | nil => rw [h] at hx; cases hx
          | cons X Xr => exact ⟨X, Xr, rfl⟩
        obtain ⟨Y, Yr, hY⟩ : ∃ Y Yr, Ys.toList.drop i = Y :: Yr := by
          cases h : Ys.toList.drop i with
          | nil => rw [h] at hy; cases hy
          | cons X Xr => exact ⟨X, Xr, rfl⟩
        rw [hX] at hx; rw [hY] at hy
        obtain ⟨a1, a2⟩ := drop_cons hX
        obtain ⟨b1, b2⟩ := drop_cons hY
        cases hx with
        | cons hx hxs =>
          cases hy with
          | cons hy hys =>
            simp only [eqC] at he
            rw [List.forIn_cons]
            simp only [Sem.run_bind, hn1, ne_eq, not_false_eq_true, if_true, hn2, part_at hdd hc a1, part_at hdd hc b1, Result.andThen_ok]
            split at he
            · rename_i h1
              have ih := fields_eq (w := w) (d := d) fs (i + 1) l' xs ys b hl' he (by rw [a2]; exact hxs) (by rw [b2]; exact hys)
              simp only [eq1_gives hdd hc h1 hx hy, Result.andThen_ok, Bool.not_true, Bool.false_eq_true, if_false, Sem.run_pure]
              exact ih
            · rename_i h1
              cases he
              simp only [eq1_gives hdd hc h1 hx hy, Result.andThen_ok, Bool.not_false, if_true, Sem.run_pure]
            · cases he
theorem elems_eq {P : Program} {ρ : Mp} {w : World} {d : Nat} {Xs Ys : Array Value} {e : TypeId} {dd : TypeDesc} {c : SC} (hdd : P.underlying e = some dd) (hc : scOf dd = some c) : ∀ (m i : Nat) (xs ys : List AV) (b : Bool), eqC (List.replicate m c) xs ys = some b →
    Rs ρ xs (Xs.toList.drop i) → Rs ρ ys (Ys.toList.drop i) →
    ((forIn (List.range' i m) ((none, ()) : Option Bool × Unit) fun j __s => do
            let x ← part e Xs (j * 1)
            let y ← part e Ys (j * 1)
            let q ← Op.equalIn (d + 1) e x y
            if (!q) = true then pure (ForInStep.done (some false, ())) else pure (ForInStep.yield (none, ()))) : Sem (Option Bool × Unit)).run P w = .ok (match b with | true => (none, ()) | false => (some false, ())) w
  | 0, i, xs, ys, b, he, hx, hy => by
    simp only [List.replicate_zero] at he
    cases xs <;> cases ys <;> simp only [eqC, Option.some.injEq, reduceCtorEq] at he
    subst he; simp
  | m + 1, i, xs, ys, b, he, hx, hy => by
    rw [List.replicate_succ] at he
    cases xs with
    | nil => simp [eqC] at he
    | cons x xs =>
      cases ys with
      | nil => simp [eqC] at he
      | cons y ys =>
        obtain ⟨X, Xr, hX⟩ : ∃ X Xr, Xs.toList.drop i = X :: Xr := by
          cases h : Xs.toList.drop i with
          | nil => rw [h] at hx; cases hx
          | cons X Xr => exact ⟨X, Xr, rfl⟩
        obtain ⟨Y, Yr, hY⟩ : ∃ Y Yr, Ys.toList.drop i = Y :: Yr := by
          cases h : Ys.toList.drop i with
          | nil => rw [h] at hy; cases hy
          | cons X Xr => exact ⟨X, Xr, rfl⟩
        rw [hX] at hx; rw [hY] at hy
        obtain ⟨a1, a2⟩ := drop_cons hX
        obtain ⟨b1, b2⟩ := drop_cons hY
        cases hx with
        | cons hx hxs =>
          cases hy with
          | cons hy hys =>
            simp only [eqC] at he
            rw [List.range'_succ, List.forIn_cons]
            simp only [Sem.run_bind, Nat.mul_one, part_at hdd hc a1, part_at hdd hc b1, Result.andThen_ok]
            split at he
            · rename_i h1
              have ih := elems_eq (w := w) (d := d) hdd hc m (i + 1) xs ys b he (by rw [a2]; exact hxs) (by rw [b2]; exact hys)
              simp only [Nat.mul_one] at ih
              simp only [eq1_gives hdd hc h1 hx hy, Result.andThen_ok, Bool.not_true, Bool.false_eq_true, if_false, Sem.run_pure]
              exact ih
            · rename_i h1
              cases he
              simp only [eq1_gives hdd hc h1 hx hy, Result.andThen_ok, Bool.not_false, if_true, Sem.run_pure]
            · cases he
theorem cls_flat {P : Program} {t : TypeId} {x y : Operand} {l : List SC} (h : clsOf P t x y = some (.flat l)) : P.eqGuardType P.depth t = false ∧
    ((∃ fs, P.underlying t = some (.struct fs) ∧ P.stoodInHeld t = false ∧ flatL P 0 fs.toList = some l) ∨
     (∃ n e i d c, P.underlying t = some (.array n e) ∧ P.info? e = some i ∧ i.size = 1 ∧ P.underlying e = some d ∧ scOf d = some c ∧ l = List.replicate n c)) := by
  unfold clsOf at h
  split at h <;> (try cases h)
  · split at h <;> (try split at h) <;> cases h
  · split at h <;> cases h
  · rename_i fs hu
    unfold clsS at h
    split at h
    · cases h
    · rename_i hn
      simp only [Bool.or_eq_true, not_or, Bool.not_eq_true] at hn
      cases hf : flatL P 0 fs.toList with
      | none => rw [hf] at h; cases h
      | some l' =>
        rw [hf] at h; cases h
        exact ⟨hn.2, .inl ⟨fs, hu, hn.1, hf⟩⟩
  · rename_i n e hu
    unfold clsA at h
    split at h <;> (try cases h)
    rename_i i d hi hd
    split at h
    · cases h
    · rename_i hn
      cases hc : scOf d with
      | none => rw [hc] at h; cases h
      | some c =>
        rw [hc] at h; cases h
        refine ⟨?_, .inr ⟨n, e, i, d, c, hu, hi, ?_, hd, hc, rfl⟩⟩
        · cases hg : P.eqGuardType P.depth t with
          | false => rfl
          | true => exact absurd (.inr hg) hn
        · by_cases h1 : i.size = 1
          · exact h1
          · exact absurd (.inl h1) hn
theorem flat_gives {P : Program} {ρ : Mp} {t : TypeId} {x y : Operand} {l : List SC} {xs ys : List AV} {Xs Ys : Array Value} {b : Bool} (h : clsOf P t x y = some (.flat l)) (he : eqC l xs ys = some b)
    (hx : Rs ρ xs Xs.toList) (hy : Rs ρ ys Ys.toList) (w : World) : (Op.equal t (.agg Xs) (.agg Ys)).run P w = .ok b w := by
  obtain ⟨_, h⟩ := cls_flat h
  rcases h with ⟨fs, hu, hs, hf⟩ | ⟨n, e, i, d, c, hu, hi, h1, hd, hc, rfl⟩
  · simp only [Op.equal, Op.maxDepth]
    rw [show (10000 : Nat) = 9998 + 1 + 1 from rfl]
    unfold Op.equalIn
    simp only [Sem.run_bind, r_und hu, Result.andThen_ok, run_program, hs, Bool.false_eq_true, if_false]
    rw [← Array.forIn_toList]
    have := fields_eq (d := 9998) (w := w) fs.toList 0 l xs ys b hf he hx hy
    rw [this]
    cases b <;> rfl
  · simp only [Op.equal, Op.maxDepth]
    rw [show (10000 : Nat) = 9998 + 1 + 1 from rfl]
    unfold Op.equalIn
    simp only [Sem.run_bind, r_und hu, Result.andThen_ok, r_size hi, h1]
    have := elems_eq (d := 9998) (w := w) hd hc n 0 xs ys b he hx hy
    simp only [Std.Legacy.Range.forIn_eq_forIn_range', Std.Legacy.Range.size, Nat.sub_zero, Nat.add_sub_cancel, Nat.div_one]
    rw [this]
    cases b <;> rfl
theorem eqGuard_flat {P : Program} {op : BinOp} {t : TypeId} {x y : Operand} {Xs Ys : Array Value} {w : World} (h : P.eqGuardType P.depth t = false) : (eqGuard op t x y (.agg Xs) (.agg Ys)).run P w = .ok () w := by
  cases op <;> simp [eqGuard, Sem.run_bind, run_program, h]
theorem bin_op (sy : Bool) {op : BinOp} {k : IntKind} {a b : Int} (h : op = .add ∨ op = .sub ∨ op = .mul ∨ op = .and ∨ op = .or ∨ op = .xor ∨ op = .andNot) : binI true op k a b = some (.int k (opI op k a b), true) := by
  rcases h with rfl | rfl | rfl | rfl | rfl | rfl | rfl <;> rfl
theorem bin_div {op : BinOp} {k : IntKind} {a b : Int} (h : op = .quo ∨ op = .rem) (hb : (!(b == 0)) = true) : binI true op k a b = some (.int k (opI op k a b), true) := by
  rcases h with rfl | rfl <;> simp only [binI, hb] <;> rfl
theorem bin_cmp {op : BinOp} {k : IntKind} {a b : Int} {z : Bool} (h : cmpI op a b = some z) : binI true op k a b = some (.bool z, true) := by
  cases op <;> simp only [cmpI, Option.some.injEq, reduceCtorEq] at h <;> subst h <;> rfl
theorem cmpI_op {op : BinOp} {a b : Int} {z : Bool} (h : cmpI op a b = some z) : op ≠ .shl ∧ op ≠ .shr := by
  cases op <;> simp [cmpI] at h ⊢
theorem binX_gives {P : Program} {op : BinOp} {x y v : AV} {t : TypeId} {xo yo : Operand} (h : binX op x y = some (v, true)) {ρ : Mp} {X Y : Value} (hx : R ρ x X) (hy : R ρ y Y) :
    ∃ V, R ρ v V ∧ ∀ w, (do eqGuard op t xo yo X Y; binOp op t X Y : Sem Value).run P w = .ok V w := by
  unfold binX at h
  split at h <;> (try (cases h; done))
  rename_i k a k' b ha hb
  rw [asS_R ha hx, asS_R hb hy]
  have hg : ∀ w, (eqGuard op t xo yo (.int k (a.den E.default.i)) (.int k' (b.den E.default.i))).run P w = .ok () w := fun w => eqGuard_other (.inl (by simp)) (fun _ _ => .inl (by simp))
  have key : ∀ (o2 : BinOp), o2 = op → (o2 = .add ∨ o2 = .sub ∨ o2 = .mul ∨ o2 = .and ∨ o2 = .or ∨ o2 = .xor ∨ o2 = .andNot) → k = k' → v = mkS k (.o op k a b) → ∃ V, R ρ v V ∧ ∀ w, (do eqGuard op t xo yo (.int k (a.den E.default.i)) (.int k' (b.den E.default.i)); binOp op t (.int k (a.den E.default.i)) (.int k' (b.den E.default.i)) : Sem Value).run P w = .ok V w := by
    intro o2 ho2 hop hk hv
    subst ho2; subst hk; subst hv
    obtain ⟨V, hV, hr⟩ := arith_gives (P := P) (by rcases hop with rfl | rfl | rfl | rfl | rfl | rfl | rfl <;> simp) (bin_op true (k := k) (a := a.den E.default.i) (b := b.den E.default.i) hop) t ρ
    cases hV
    exact ⟨_, mkS_R _ _ _, fun w => by simp only [Sem.run_bind, hg, Result.andThen_ok, hr]; rfl⟩
  have keyd : ∀ (o2 : BinOp) (z : Int), o2 = op → (o2 = .quo ∨ o2 = .rem) → b = .c z → (!(z == 0)) = true → k = k' → v = mkS k (.o op k a b) → ∃ V, R ρ v V ∧ ∀ w, (do eqGuard op t xo yo (.int k (a.den E.default.i)) (.int k' (b.den E.default.i)); binOp op t (.int k (a.den E.default.i)) (.int k' (b.den E.default.i)) : Sem Value).run P w = .ok V w := by
    intro o2 z ho2 hop hz hz0 hk hv
    subst ho2; subst hk; subst hv; subst hz
    obtain ⟨V, hV, hr⟩ := arith_gives (P := P) (by rcases hop with rfl | rfl <;> simp) (bin_div (k := k) (a := a.den E.default.i) (b := z) hop hz0) t ρ
    cases hV
    simp only [Sx.den] at hg
    exact ⟨_, mkS_R _ _ _, fun w => by simp only [Sx.den, Sem.run_bind, hg, Result.andThen_ok, hr]⟩
  unfold binSx at h
  split at h
  · split at h <;> (try (cases h; done))
    rename_i hz
    simp only [Option.some.injEq, Prod.mk.injEq] at h
    obtain ⟨rfl, -⟩ := h
    refine ⟨_, mkS_R _ _ _, fun w => ?_⟩
    have hb' : ¬ b.den E.default.i < 0 := of_decide_eq_false (Option.some.inj (cmpS_ok hz))
    simp only [Sem.run_bind, hg, Result.andThen_ok, binOp, Op.shift, Sx.den, if_neg hb', Sem.run_pure, opI, p2_eq]
    try rfl
  · split at h <;> (try (cases h; done))
    rename_i hz
    simp only [Option.some.injEq, Prod.mk.injEq] at h
    obtain ⟨rfl, -⟩ := h
    refine ⟨_, mkS_R _ _ _, fun w => ?_⟩
    have hb' : ¬ b.den E.default.i < 0 := of_decide_eq_false (Option.some.inj (cmpS_ok hz))
    simp only [Sem.run_bind, hg, Result.andThen_ok, binOp, Op.shift, Sx.den, if_neg hb', Sem.run_pure, opI, p2_eq]
    try rfl
  iterate 7
    · split at h <;> (try (cases h; done))
      rename_i hk
      simp only [Option.some.injEq, Prod.mk.injEq] at h
      exact key _ rfl (by simp) (kin_inj (Nat.eq_of_beq_eq_true hk)) h.1.symm
  iterate 2
    · split at h <;> (try (cases h; done))
      split at h <;> (try (cases h; done))
      rename_i hk
      simp only [Option.some.injEq, Prod.mk.injEq] at h
      exact keyd _ _ rfl (by simp) rfl h.2 (kin_inj (Nat.eq_of_beq_eq_true hk)) h.1.symm
  · split at h <;> (try (cases h; done))
    rename_i hk
    split at h <;> (try (cases h; done))
    rename_i z hz
    cases h
    obtain rfl := kin_inj (Nat.eq_of_beq_eq_true hk)
    have h1 := cmpS_ok hz
    obtain ⟨V, hV, hr⟩ := arith_gives (P := P) (cmpI_op h1) (bin_cmp (k := k) h1) t ρ
    exact ⟨V, hV, fun w => by simp only [Sem.run_bind, hg, Result.andThen_ok, hr]⟩
theorem bin_gives {P : Program} {sy : Bool} {op : BinOp} {c : EC} {x y : AV} {v : AV} {t : TypeId} {xo yo : Operand} (hc : clsOf P t xo yo = some c)
    (h : binK sy op c x y = some (v, true)) {ρ : Mp} {ev : Operand → Value} (hx : R ρ x (ev xo)) (hy : R ρ y (ev yo))
    (hk : ∀ u, xo = .const u ∨ yo = .const u → True) :
    ∃ V, R ρ v V ∧ ∀ w, (do eqGuard op t xo yo (ev xo) (ev yo); binOp op t (ev xo) (ev yo) : Sem Value).run P w = .ok V w := by
  generalize hX : ev xo = X at hx
  generalize hY : ev yo = Y at hy
  clear hX hY
  unfold binK at h
  split at h
  -- int
  · cases hx; cases hy
    rename_i k a k' b
    have hg : ∀ w, (eqGuard op t xo yo (.int k a) (.int k' b)).run P w = .ok () w := fun w => eqGuard_other (.inl (by simp)) (fun _ _ => .inl (by simp))
    split at h
    · simp only [Option.some.injEq, Prod.mk.injEq, decide_eq_true_eq] at h
      obtain ⟨rfl, hb⟩ := h
      refine ⟨_, .int _ _, fun w => ?_⟩
      have hb' : ¬ b < 0 := by omega
      simp only [Sem.run_bind, hg, Result.andThen_ok, binOp, Op.shift, if_neg hb', Sem.run_pure, p2_eq, wr_eq]
    · simp only [Option.some.injEq, Prod.mk.injEq, decide_eq_true_eq] at h
      obtain ⟨rfl, hb⟩ := h
      refine ⟨_, .int _ _, fun w => ?_⟩
      have hb' : ¬ b < 0 := by omega
      simp only [Sem.run_bind, hg, Result.andThen_ok, binOp, Op.shift, if_neg hb', Sem.run_pure, p2_eq]
    · split at h
      · rename_i h1 h2 he
        subst he
        obtain ⟨V, hV, hr⟩ := arith_gives (P := P) ⟨h1, h2⟩ h t ρ
        exact ⟨V, hV, fun w => by simp only [Sem.run_bind, hg, Result.andThen_ok, hr]⟩
      · cases h
  -- string
  · cases hx; cases hy
    rename_i a b
    obtain ⟨V, hV, hr⟩ := str_gives (P := P) h t ρ
    have hg : ∀ w, (eqGuard op t xo yo (.string (bs a)) (.string (bs b))).run P w = .ok () w := fun w => eqGuard_other (.inl (by simp)) (fun _ _ => .inl (by simp))
    exact ⟨V, hV, fun w => by simp only [Sem.run_bind, hg, Result.andThen_ok, hr]⟩
  -- bool
  · split at h
    · cases hx; cases hy
      rename_i a b
      have ht := cls_bool hc
      refine eq_gives h (fun w => eqGuard_other (.inl (by simp)) (fun _ _ => .inl (by simp))) (fun w => ?_) ⟨by simp, by simp, by simp, by simp⟩
      simp only [Op.equal, Op.maxDepth]; unfold Op.equalIn; simp only [Sem.run_bind, r_und ht, Result.andThen_ok, Sem.run_pure]
    · cases h
  -- nil, nil pointers
  · split at h
    · cases hx; cases hy
      obtain ⟨e, i, ht, hi, h0⟩ := cls_ptr hc
      refine eq_gives h (fun w => eqGuard_other (.inl (by simp)) (fun _ _ => .inl (by simp))) (fun w => ?_) ⟨by simp, by simp, by simp, by simp⟩
      simp only [Op.equal, Op.maxDepth]; unfold Op.equalIn; simp only [Sem.run_bind, r_und ht, Result.andThen_ok, Sem.run_pure] <;> rfl
    · cases h
  · split at h
    · cases hx; cases hy
      obtain ⟨e, i, ht, hi, h0⟩ := cls_ptr hc
      refine eq_gives h (fun w => eqGuard_other (.inl (by simp)) (fun _ _ => .inl (by simp))) (fun w => ?_) ⟨by simp, by simp, by simp, by simp⟩
      simp only [Op.equal, Op.maxDepth]; unfold Op.equalIn; simp only [Sem.run_bind, r_und ht, Result.andThen_ok, Sem.run_pure] <;> rfl
    · cases h
  · split at h
    · cases hx; cases hy
      obtain ⟨e, i, ht, hi, h0⟩ := cls_ptr hc
      refine eq_gives h (fun w => eqGuard_other (.inl (by simp)) (fun _ _ => .inl (by simp))) (fun w => ?_) ⟨by simp, by simp, by simp, by simp⟩
      simp only [Op.equal, Op.maxDepth]; unfold Op.equalIn; simp only [Sem.run_bind, r_und ht, Result.andThen_ok, Sem.run_pure]
    · cases h
  · split at h
    · split at h
      · rename_i i o i' o' _ _ hii
        subst hii
        cases hx; cases hy
        rename_i e1 h1 e2 h2
        rw [h1] at h2; cases h2
        obtain ⟨e, j, ht, hi, h0⟩ := cls_ptr hc
        refine eq_gives h (fun w => eqGuard_other (.inl (by simp)) (fun _ _ => .inl (by simp))) (fun w => ?_) ⟨by simp, by simp, by simp, by simp⟩
        simp only [Op.equal, Op.maxDepth]; unfold Op.equalIn; simp only [Sem.run_bind, r_und ht, Result.andThen_ok, r_size hi, ne_eq, h0, not_false_eq_true, if_true]
        unfold sameAddr
        simp only [beq_self_eq_true, if_true, Sem.run_pure]
        congr 1
        rw [Bool.eq_iff_iff]; simp
      · cases h
    · cases h
  -- slices
  · split at h
    · cases hx; cases hy
      obtain ⟨e, ht⟩ := cls_slice hc
      refine eq_gives h (fun w => eqGuard_other (.inl (by simp)) (fun _ _ => .inl (by simp))) (fun w => ?_) ⟨by simp, by simp, by simp, by simp⟩
      simp only [Op.equal, Op.maxDepth]; unfold Op.equalIn; simp only [Sem.run_bind, r_und ht, Result.andThen_ok, Sem.run_pure] <;> rfl
    · cases h
  · split at h
    · obtain ⟨e, ht⟩ := cls_slice hc
      cases hx; cases hy <;> (
        refine eq_gives h (fun w => eqGuard_other (.inl (by simp)) (fun _ _ => .inl (by simp))) (fun w => ?_) ⟨by simp, by simp, by simp, by simp⟩
        simp only [Op.equal, Op.maxDepth]; unfold Op.equalIn; simp only [Sem.run_bind, r_und ht, Result.andThen_ok, Sem.run_pure] <;> rfl)
    · cases h
  · split at h
    · obtain ⟨e, ht⟩ := cls_slice hc
      cases hx <;> cases hy <;> (
        refine eq_gives h (fun w => eqGuard_other (.inl (by simp)) (fun _ _ => .inl (by simp))) (fun w => ?_) ⟨by simp, by simp, by simp, by simp⟩
        simp only [Op.equal, Op.maxDepth]; unfold Op.equalIn; simp only [Sem.run_bind, r_und ht, Result.andThen_ok, Sem.run_pure])
    · cases h
  -- maps
  · split at h
    · cases hx; cases hy
      obtain ⟨e, f, ht⟩ := cls_map hc
      refine eq_gives h (fun w => eqGuard_other (.inl (by simp)) (fun _ _ => .inl (by simp))) (fun w => ?_) ⟨by simp, by simp, by simp, by simp⟩
      simp only [Op.equal, Op.maxDepth]; unfold Op.equalIn; simp only [Sem.run_bind, r_und ht, Result.andThen_ok, Sem.run_pure] <;> rfl
    · cases h
  · split at h
    · cases hx; cases hy
      obtain ⟨e, f, ht⟩ := cls_map hc
      refine eq_gives h (fun w => eqGuard_other (.inl (by simp)) (fun _ _ => .inl (by simp))) (fun w => ?_) ⟨by simp, by simp, by simp, by simp⟩
      simp only [Op.equal, Op.maxDepth]; unfold Op.equalIn; simp only [Sem.run_bind, r_und ht, Result.andThen_ok, Sem.run_pure] <;> rfl
    · cases h
  · split at h
    · cases hx; cases hy
      obtain ⟨e, f, ht⟩ := cls_map hc
      refine eq_gives h (fun w => eqGuard_other (.inl (by simp)) (fun _ _ => .inl (by simp))) (fun w => ?_) ⟨by simp, by simp, by simp, by simp⟩
      simp only [Op.equal, Op.maxDepth]; unfold Op.equalIn; simp only [Sem.run_bind, r_und ht, Result.andThen_ok, Sem.run_pure] <;> rfl
    · cases h
  -- functions
  · split at h
    · cases hx; cases hy
      obtain ⟨e, f, g, ht⟩ := cls_func hc
      refine eq_gives h (fun w => eqGuard_other (.inl (by simp)) (fun _ _ => .inl (by simp))) (fun w => ?_) ⟨by simp, by simp, by simp, by simp⟩
      simp only [Op.equal, Op.maxDepth]; unfold Op.equalIn; simp only [Sem.run_bind, r_und ht, Result.andThen_ok, Sem.run_pure]
    · cases h
  · split at h
    · cases hx; cases hy
      obtain ⟨e, f, g, ht⟩ := cls_func hc
      refine eq_gives h (fun w => eqGuard_other (.inl (by simp)) (fun _ _ => .inl (by simp))) (fun w => ?_) ⟨by simp, by simp, by simp, by simp⟩
      simp only [Op.equal, Op.maxDepth]; unfold Op.equalIn; simp only [Sem.run_bind, r_und ht, Result.andThen_ok, Sem.run_pure]
    · cases h
  · split at h
    · cases hx; cases hy
      obtain ⟨e, f, g, ht⟩ := cls_func hc
      refine eq_gives h (fun w => eqGuard_other (.inl (by simp)) (fun _ _ => .inl (by simp))) (fun w => ?_) ⟨by simp, by simp, by simp, by simp⟩
      simp only [Op.equal, Op.maxDepth]; unfold Op.equalIn; simp only [Sem.run_bind, r_und ht, Result.andThen_ok, Sem.run_pure]
    · cases h
  -- interfaces
  · split at h
    · cases hx; cases hy
      obtain ⟨e, ht, hcon⟩ := cls_iface hc
      refine eq_gives h (fun w => ?_) (fun w => ?_) ⟨by simp, by simp, by simp, by simp⟩
      · exact eqGuard_nil hcon
      · simp only [Op.equal, Op.maxDepth]; unfold Op.equalIn; simp only [Sem.run_bind, r_und ht, Result.andThen_ok, Sem.run_pure]
    · cases h
  · split at h
    · cases hx; cases hy
      obtain ⟨e, ht, _⟩ := cls_iface hc
      refine eq_gives h (fun w => eqGuard_other (.inr (by simp)) (fun _ _ => .inl (by simp))) (fun w => ?_) ⟨by simp, by simp, by simp, by simp⟩
      simp only [Op.equal, Op.maxDepth]; unfold Op.equalIn; simp only [Sem.run_bind, r_und ht, Result.andThen_ok, Sem.run_pure]
    · cases h
  · split at h
    · cases hx; cases hy
      obtain ⟨e, ht, _⟩ := cls_iface hc
      refine eq_gives h (fun w => eqGuard_other (.inl (by simp)) (fun _ _ => .inl (by simp))) (fun w => ?_) ⟨by simp, by simp, by simp, by simp⟩
      simp only [Op.equal, Op.maxDepth]; unfold Op.equalIn; simp only [Sem.run_bind, r_und ht, Result.andThen_ok, Sem.run_pure]
    · cases h
  -- structs and arrays of scalars
  · split at h
    · split at h <;> (try (cases h; done))
      rename_i b hb
      cases hx with
      | agg hx =>
        cases hy with
        | agg hy =>
          refine eq_gives h (fun w => eqGuard_flat (cls_flat hc).1) (fun w => flat_gives hc hb hx hy w) ⟨by simp, by simp, by simp, by simp⟩
    · cases h
  · exact binX_gives h hx hy
end Ev
end Go.Proofs.YtakgohocimlagaaGreat
