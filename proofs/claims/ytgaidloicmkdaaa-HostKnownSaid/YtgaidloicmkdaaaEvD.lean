/-
  An evaluator over plain data (4): the operations that touch no memory: the model's run gives what the evaluation gives. Of no program. No condition.
-/
import Derived.Test.YtgaidloicmkdaaaEvC
namespace Go.Proofs.Ytgaidloicmkdaaa
namespace Ev
set_option linter.unusedVariables false
set_option linter.unusedSimpArgs false
open Go.RowKit

/-- the run of an operation gives this value, and leaves the world -/
def Gives (P : Program) (s : Sem Next) (V : Value) : Prop := ∀ w, s.run P w = .ok (.value V) w

theorem gives_v {P : Program} {s : Sem Value} {V : Value} (h : ∀ w, s.run P w = .ok V w) : Gives P (do pure (.value (← s))) V := fun w => by
  simp [h w]

theorem eqGuard_other {op : BinOp} {t : TypeId} {x y : Operand} {a b : Value} {P : Program} {w : World} (h1 : a ≠ .nilIface ∨ b ≠ .nilIface) (h2 : ∀ xs ys, a ≠ .agg xs ∨ b ≠ .agg ys) :
    (eqGuard op t x y a b).run P w = .ok () w := by
  unfold eqGuard
  split <;> simp only [Bool.not_true, Bool.not_false, Bool.false_eq_true, if_false, if_true, Sem.run_pure]
  all_goals
    split
    · simp at h1
    · rename_i xs ys; have := h2 xs ys; simp at this
    · rfl

theorem eqGuard_nil {op : BinOp} {t : TypeId} {x y : Operand} {P : Program} {w : World} (h : isConstO x = true ∨ isConstO y = true) :
    (eqGuard op t x y .nilIface .nilIface).run P w = .ok () w := by
  unfold eqGuard
  split <;> simp only [Bool.not_true, Bool.not_false, Bool.false_eq_true, if_false, if_true, Sem.run_pure]
  all_goals (cases x <;> cases y <;> simp [isConstO] at h ⊢)
theorem arith_gives {P : Program} {sy : Bool} {op : BinOp} {k : IntKind} {a b : Int} {v : AV} (hop : op ≠ .shl ∧ op ≠ .shr) (h : binI sy op k a b = some (v, true)) (t : TypeId) (ρ : Mp) :
    ∃ V, R ρ v V ∧ ∀ w, (binOp op t (.int k a) (.int k b)).run P w = .ok V w := by
  have hM : ∀ x y : BitVec k.bits, (k.wrap ((x &&& y).toNat : Int)) = k.wrap (Int.ofNat (Nat.land x.toNat y.toNat)) := fun x y => by rw [BitVec.toNat_and]; rfl
  cases op <;> simp only [binI, Option.some.injEq, Prod.mk.injEq, reduceCtorEq] at h <;> (try (simp at hop; done)) <;> obtain ⟨rfl, h2⟩ := h
  · exact ⟨_, .int _ _, fun w => by simp [binOp, Op.intArith]⟩
  · exact ⟨_, .int _ _, fun w => by simp [binOp, Op.intArith]⟩
  · exact ⟨_, .int _ _, fun w => by simp [binOp, Op.intArith]⟩
  · have h3 : b ≠ 0 := by simpa using h2
    exact ⟨_, .int _ _, fun w => by simp [binOp, Op.intDiv, h3]⟩
  · have h3 : b ≠ 0 := by simpa using h2
    exact ⟨_, .int _ _, fun w => by simp [binOp, Op.intDiv, h3]⟩
  · exact ⟨_, .int _ _, fun w => by
      simp only [binOp, Op.intBits, ne_eq, not_true_eq_false, if_false]
      rw [Sem.run_pure, BitVec.toNat_and, toNat_ofInt, toNat_ofInt, wr_eq]; rfl⟩
  · exact ⟨_, .int _ _, fun w => by
      simp only [binOp, Op.intBits, ne_eq, not_true_eq_false, if_false]
      rw [Sem.run_pure, BitVec.toNat_or, toNat_ofInt, toNat_ofInt, wr_eq]; rfl⟩
  · exact ⟨_, .int _ _, fun w => by
      simp only [binOp, Op.intBits, ne_eq, not_true_eq_false, if_false]
      rw [Sem.run_pure, BitVec.toNat_xor, toNat_ofInt, toNat_ofInt, wr_eq]; rfl⟩
  · exact ⟨_, .int _ _, fun w => by
      simp only [binOp, Op.intBits, ne_eq, not_true_eq_false, if_false]
      rw [Sem.run_pure, BitVec.toNat_and, BitVec.toNat_not, toNat_ofInt, toNat_ofInt, wr_eq, two_eq]; rfl⟩
  all_goals exact ⟨_, .bool _, fun w => by simp [binOp, Op.intCmp]⟩

theorem str_gives {P : Program} {op : BinOp} {a b : List Nat} {v : AV} (h : binS op a b = some (v, true)) (t : TypeId) (ρ : Mp) :
    ∃ V, R ρ v V ∧ ∀ w, (binOp op t (.string (bs a)) (.string (bs b))).run P w = .ok V w := by
  cases op <;> simp only [binS, Option.some.injEq, Prod.mk.injEq, reduceCtorEq] at h <;> obtain ⟨rfl, h2⟩ := h
  · refine ⟨_, .str _, fun w => ?_⟩
    have h3 : ¬ (((bs a).size + (bs b).size : Nat) : Int) > IntKind.i64.max := by
      rw [bs_size, bs_size]
      have : IntKind.i64.max = 9223372036854775807 := by decide
      simp only [decide_eq_true_eq] at h2
      omega
    simp only [binOp, Op.stringOp, if_neg h3, bs_append, Sem.run_pure]
  all_goals exact ⟨_, .bool _, fun w => by simp [binOp, Op.stringOp, beqL_eq, ltL_eq]⟩

theorem eqB_inv {op : BinOp} {b : Bool} {v : AV} (h : eqB op b = some (v, true)) : (op = .eql ∧ v = .bool b) ∨ (op = .neq ∧ v = .bool (!b)) := by
  cases op <;> simp [eqB] at h <;> simp [h]

/-- what is left of an equality: the model's own 'equal' says b -/
theorem eq_gives {P : Program} {op : BinOp} {t : TypeId} {x y : Operand} {X Y : Value} {b : Bool} {v : AV} {ρ : Mp} (h : eqB op b = some (v, true))
    (hg : ∀ w, (eqGuard op t x y X Y).run P w = .ok () w) (he : ∀ w, (Op.equal t X Y).run P w = .ok b w)
    (hf : (∀ k n, X ≠ .int k n) ∧ (∀ k n, X ≠ .float k n) ∧ (∀ k n m, X ≠ .complex k n m) ∧ (∀ s, X ≠ .string s)) :
    ∃ V, R ρ v V ∧ ∀ w, (do eqGuard op t x y X Y; binOp op t X Y : Sem Value).run P w = .ok V w := by
  obtain ⟨h1, h2, h3, h4⟩ := hf
  rcases eqB_inv h with ⟨rfl, rfl⟩ | ⟨rfl, rfl⟩
  · refine ⟨_, .bool _, fun w => ?_⟩
    have : binOp .eql t X Y = (do pure (.bool (← Op.equal t X Y))) := by
      cases X <;> first | rfl | (exact absurd rfl (h1 _ _)) | (exact absurd rfl (h2 _ _)) | (exact absurd rfl (h3 _ _ _)) | (exact absurd rfl (h4 _))
    simp only [Sem.run_bind, hg, Result.andThen_ok, this, he, Sem.run_pure]
  · refine ⟨_, .bool _, fun w => ?_⟩
    have : binOp .neq t X Y = (do pure (.bool (!(← Op.equal t X Y)))) := by
      cases X <;> first | rfl | (exact absurd rfl (h1 _ _)) | (exact absurd rfl (h2 _ _)) | (exact absurd rfl (h3 _ _ _)) | (exact absurd rfl (h4 _))
    simp only [Sem.run_bind, hg, Result.andThen_ok, this, he, Sem.run_pure]

theorem cls_bool {P : Program} {t : TypeId} {x y : Operand} (h : clsOf P t x y = some .bool) : P.underlying t = some .bool := by
  unfold clsOf at h; split at h <;> (try cases h) <;> first | assumption | (split at h <;> (try split at h) <;> cases h)
theorem cls_ptr {P : Program} {t : TypeId} {x y : Operand} (h : clsOf P t x y = some .ptr) : ∃ e i, P.underlying t = some (.pointer e) ∧ P.info? e = some i ∧ i.size ≠ 0 := by
  unfold clsOf at h; split at h <;> (try cases h) <;> (split at h <;> (try split at h) <;> (try cases h))
  rename_i e hu _ i hi h0; exact ⟨e, i, hu, hi, h0⟩
theorem cls_slice {P : Program} {t : TypeId} {x y : Operand} (h : clsOf P t x y = some .slice) : ∃ e, P.underlying t = some (.slice e) := by
  unfold clsOf at h; split at h <;> (try cases h) <;> first | exact ⟨_, by assumption⟩ | (split at h <;> (try split at h) <;> cases h)
theorem cls_map {P : Program} {t : TypeId} {x y : Operand} (h : clsOf P t x y = some .map) : ∃ e f, P.underlying t = some (.map e f) := by
  unfold clsOf at h; split at h <;> (try cases h) <;> first | exact ⟨_, _, by assumption⟩ | (split at h <;> (try split at h) <;> cases h)
theorem cls_func {P : Program} {t : TypeId} {x y : Operand} (h : clsOf P t x y = some .func) : ∃ e f g, P.underlying t = some (.func e f g) := by
  unfold clsOf at h; split at h <;> (try cases h) <;> first | exact ⟨_, _, _, by assumption⟩ | (split at h <;> (try split at h) <;> cases h)
theorem cls_iface {P : Program} {t : TypeId} {x y : Operand} (h : clsOf P t x y = some .iface) : ∃ e, P.underlying t = some (.interface e) ∧ (isConstO x = true ∨ isConstO y = true) := by
  unfold clsOf at h; split at h <;> (try cases h) <;> (split at h <;> (try split at h) <;> (try cases h))
  rename_i e hu hc; exact ⟨e, hu, by simpa using hc⟩
theorem bin_gives {P : Program} {sy : Bool} {op : BinOp} {c : EC} {x y : AV} {v : AV} {t : TypeId} {xo yo : Operand} (hc : clsOf P t xo yo = some c)
    (h : binK sy op c x y = some (v, true)) {ρ : Mp} {ev : Operand → Value} (hx : R ρ x (ev xo)) (hy : R ρ y (ev yo))
    (hk : ∀ u, xo = .const u ∨ yo = .const u → True) :
    ∃ V, R ρ v V ∧ ∀ w, (do eqGuard op t xo yo (ev xo) (ev yo); binOp op t (ev xo) (ev yo) : Sem Value).run P w = .ok V w := by
  generalize hX : ev xo = X at hx
  generalize hY : ev yo = Y at hy
  clear hX hY
  unfold binK at h
  split at h
  -- int
  · cases hx; cases hy
    rename_i k a k' b
    have hg : ∀ w, (eqGuard op t xo yo (.int k a) (.int k' b)).run P w = .ok () w := fun w => eqGuard_other (.inl (by simp)) (fun _ _ => .inl (by simp))
    split at h
    · simp only [Option.some.injEq, Prod.mk.injEq, decide_eq_true_eq] at h
      obtain ⟨rfl, hb⟩ := h
      refine ⟨_, .int _ _, fun w => ?_⟩
      have hb' : ¬ b < 0 := by omega
      simp only [Sem.run_bind, hg, Result.andThen_ok, binOp, Op.shift, if_neg hb', Sem.run_pure, p2_eq, wr_eq]
    · simp only [Option.some.injEq, Prod.mk.injEq, decide_eq_true_eq] at h
      obtain ⟨rfl, hb⟩ := h
      refine ⟨_, .int _ _, fun w => ?_⟩
      have hb' : ¬ b < 0 := by omega
      simp only [Sem.run_bind, hg, Result.andThen_ok, binOp, Op.shift, if_neg hb', Sem.run_pure, p2_eq]
    · split at h
      · rename_i h1 h2 he
        subst he
        obtain ⟨V, hV, hr⟩ := arith_gives (P := P) ⟨h1, h2⟩ h t ρ
        exact ⟨V, hV, fun w => by simp only [Sem.run_bind, hg, Result.andThen_ok, hr]⟩
      · cases h
  -- string
  · cases hx; cases hy
    rename_i a b
    obtain ⟨V, hV, hr⟩ := str_gives (P := P) h t ρ
    have hg : ∀ w, (eqGuard op t xo yo (.string (bs a)) (.string (bs b))).run P w = .ok () w := fun w => eqGuard_other (.inl (by simp)) (fun _ _ => .inl (by simp))
    exact ⟨V, hV, fun w => by simp only [Sem.run_bind, hg, Result.andThen_ok, hr]⟩
  -- bool
  · split at h
    · cases hx; cases hy
      rename_i a b
      have ht := cls_bool hc
      refine eq_gives h (fun w => eqGuard_other (.inl (by simp)) (fun _ _ => .inl (by simp))) (fun w => ?_) ⟨by simp, by simp, by simp, by simp⟩
      simp only [Op.equal, Op.maxDepth]; unfold Op.equalIn; simp only [Sem.run_bind, r_und ht, Result.andThen_ok, Sem.run_pure]
    · cases h
  -- nil, nil pointers
  · split at h
    · cases hx; cases hy
      obtain ⟨e, i, ht, hi, h0⟩ := cls_ptr hc
      refine eq_gives h (fun w => eqGuard_other (.inl (by simp)) (fun _ _ => .inl (by simp))) (fun w => ?_) ⟨by simp, by simp, by simp, by simp⟩
      simp only [Op.equal, Op.maxDepth]; unfold Op.equalIn; simp only [Sem.run_bind, r_und ht, Result.andThen_ok, Sem.run_pure] <;> rfl
    · cases h
  · split at h
    · cases hx; cases hy
      obtain ⟨e, i, ht, hi, h0⟩ := cls_ptr hc
      refine eq_gives h (fun w => eqGuard_other (.inl (by simp)) (fun _ _ => .inl (by simp))) (fun w => ?_) ⟨by simp, by simp, by simp, by simp⟩
      simp only [Op.equal, Op.maxDepth]; unfold Op.equalIn; simp only [Sem.run_bind, r_und ht, Result.andThen_ok, Sem.run_pure] <;> rfl
    · cases h
  · split at h
    · cases hx; cases hy
      obtain ⟨e, i, ht, hi, h0⟩ := cls_ptr hc
      refine eq_gives h (fun w => eqGuard_other (.inl (by simp)) (fun _ _ => .inl (by simp))) (fun w => ?_) ⟨by simp, by simp, by simp, by simp⟩
      simp only [Op.equal, Op.maxDepth]; unfold Op.equalIn; simp only [Sem.run_bind, r_und ht, Result.andThen_ok, Sem.run_pure]
    · cases h
  · split at h
    · split at h
      · rename_i i o i' o' _ _ hii
        subst hii
        cases hx; cases hy
        rename_i e1 h1 e2 h2
        rw [h1] at h2; cases h2
        obtain ⟨e, j, ht, hi, h0⟩ := cls_ptr hc
        refine eq_gives h (fun w => eqGuard_other (.inl (by simp)) (fun _ _ => .inl (by simp))) (fun w => ?_) ⟨by simp, by simp, by simp, by simp⟩
        simp only [Op.equal, Op.maxDepth]; unfold Op.equalIn; simp only [Sem.run_bind, r_und ht, Result.andThen_ok, r_size hi, ne_eq, h0, not_false_eq_true, if_true]
        unfold sameAddr
        simp only [beq_self_eq_true, if_true, Sem.run_pure]
        congr 1
        rw [Bool.eq_iff_iff]; simp
      · cases h
    · cases h
  -- slices
  · split at h
    · cases hx; cases hy
      obtain ⟨e, ht⟩ := cls_slice hc
      refine eq_gives h (fun w => eqGuard_other (.inl (by simp)) (fun _ _ => .inl (by simp))) (fun w => ?_) ⟨by simp, by simp, by simp, by simp⟩
      simp only [Op.equal, Op.maxDepth]; unfold Op.equalIn; simp only [Sem.run_bind, r_und ht, Result.andThen_ok, Sem.run_pure] <;> rfl
    · cases h
  · split at h
    · obtain ⟨e, ht⟩ := cls_slice hc
      cases hx; cases hy <;> (
        refine eq_gives h (fun w => eqGuard_other (.inl (by simp)) (fun _ _ => .inl (by simp))) (fun w => ?_) ⟨by simp, by simp, by simp, by simp⟩
        simp only [Op.equal, Op.maxDepth]; unfold Op.equalIn; simp only [Sem.run_bind, r_und ht, Result.andThen_ok, Sem.run_pure] <;> rfl)
    · cases h
  · split at h
    · obtain ⟨e, ht⟩ := cls_slice hc
      cases hx <;> cases hy <;> (
        refine eq_gives h (fun w => eqGuard_other (.inl (by simp)) (fun _ _ => .inl (by simp))) (fun w => ?_) ⟨by simp, by simp, by simp, by simp⟩
        simp only [Op.equal, Op.maxDepth]; unfold Op.equalIn; simp only [Sem.run_bind, r_und ht, Result.andThen_ok, Sem.run_pure])
    · cases h
  -- maps
  · split at h
    · cases hx; cases hy
      obtain ⟨e, f, ht⟩ := cls_map hc
      refine eq_gives h (fun w => eqGuard_other (.inl (by simp)) (fun _ _ => .inl (by simp))) (fun w => ?_) ⟨by simp, by simp, by simp, by simp⟩
      simp only [Op.equal, Op.maxDepth]; unfold Op.equalIn; simp only [Sem.run_bind, r_und ht, Result.andThen_ok, Sem.run_pure] <;> rfl
    · cases h
  · split at h
    · cases hx; cases hy
      obtain ⟨e, f, ht⟩ := cls_map hc
      refine eq_gives h (fun w => eqGuard_other (.inl (by simp)) (fun _ _ => .inl (by simp))) (fun w => ?_) ⟨by simp, by simp, by simp, by simp⟩
      simp only [Op.equal, Op.maxDepth]; unfold Op.equalIn; simp only [Sem.run_bind, r_und ht, Result.andThen_ok, Sem.run_pure] <;> rfl
    · cases h
  · split at h
    · cases hx; cases hy
      obtain ⟨e, f, ht⟩ := cls_map hc
      refine eq_gives h (fun w => eqGuard_other (.inl (by simp)) (fun _ _ => .inl (by simp))) (fun w => ?_) ⟨by simp, by simp, by simp, by simp⟩
      simp only [Op.equal, Op.maxDepth]; unfold Op.equalIn; simp only [Sem.run_bind, r_und ht, Result.andThen_ok, Sem.run_pure] <;> rfl
    · cases h
  -- functions
  · split at h
    · cases hx; cases hy
      obtain ⟨e, f, g, ht⟩ := cls_func hc
      refine eq_gives h (fun w => eqGuard_other (.inl (by simp)) (fun _ _ => .inl (by simp))) (fun w => ?_) ⟨by simp, by simp, by simp, by simp⟩
      simp only [Op.equal, Op.maxDepth]; unfold Op.equalIn; simp only [Sem.run_bind, r_und ht, Result.andThen_ok, Sem.run_pure]
    · cases h
  · split at h
    · cases hx; cases hy
      obtain ⟨e, f, g, ht⟩ := cls_func hc
      refine eq_gives h (fun w => eqGuard_other (.inl (by simp)) (fun _ _ => .inl (by simp))) (fun w => ?_) ⟨by simp, by simp, by simp, by simp⟩
      simp only [Op.equal, Op.maxDepth]; unfold Op.equalIn; simp only [Sem.run_bind, r_und ht, Result.andThen_ok, Sem.run_pure]
    · cases h
  · split at h
    · cases hx; cases hy
      obtain ⟨e, f, g, ht⟩ := cls_func hc
      refine eq_gives h (fun w => eqGuard_other (.inl (by simp)) (fun _ _ => .inl (by simp))) (fun w => ?_) ⟨by simp, by simp, by simp, by simp⟩
      simp only [Op.equal, Op.maxDepth]; unfold Op.equalIn; simp only [Sem.run_bind, r_und ht, Result.andThen_ok, Sem.run_pure]
    · cases h
  -- interfaces
  · split at h
    · cases hx; cases hy
      obtain ⟨e, ht, hcon⟩ := cls_iface hc
      refine eq_gives h (fun w => ?_) (fun w => ?_) ⟨by simp, by simp, by simp, by simp⟩
      · exact eqGuard_nil hcon
      · simp only [Op.equal, Op.maxDepth]; unfold Op.equalIn; simp only [Sem.run_bind, r_und ht, Result.andThen_ok, Sem.run_pure]
    · cases h
  · split at h
    · cases hx; cases hy
      obtain ⟨e, ht, _⟩ := cls_iface hc
      refine eq_gives h (fun w => eqGuard_other (.inr (by simp)) (fun _ _ => .inl (by simp))) (fun w => ?_) ⟨by simp, by simp, by simp, by simp⟩
      simp only [Op.equal, Op.maxDepth]; unfold Op.equalIn; simp only [Sem.run_bind, r_und ht, Result.andThen_ok, Sem.run_pure]
    · cases h
  · split at h
    · cases hx; cases hy
      obtain ⟨e, ht, _⟩ := cls_iface hc
      refine eq_gives h (fun w => eqGuard_other (.inl (by simp)) (fun _ _ => .inl (by simp))) (fun w => ?_) ⟨by simp, by simp, by simp, by simp⟩
      simp only [Op.equal, Op.maxDepth]; unfold Op.equalIn; simp only [Sem.run_bind, r_und ht, Result.andThen_ok, Sem.run_pure]
    · cases h
  · cases h
end Ev
end Go.Proofs.Ytgaidloicmkdaaa
