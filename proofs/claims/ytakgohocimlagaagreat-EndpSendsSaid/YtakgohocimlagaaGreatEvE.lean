/-
  An evaluator over plain data (5): the operations that touch no memory: each compiled operation's evaluation is the model's run. Of no program. No condition.
-/
import Derived.Test.YtakgohocimlagaaGreatEvD
namespace Go.Proofs.YtakgohocimlagaaGreat
namespace Ev
variable [E : Inhabited EnvT]
set_option linter.unusedVariables false
set_option linter.unusedSectionVars false
set_option linter.unusedSimpArgs false
open Go.RowKit

theorem sliceBound_ok {P : Program} {w : World} {k : IntKind} {i : Int} {y : Nat} {c : BoundsCode} (h0 : 0 ≤ i) (h1 : i ≤ (y : Int)) :
    (Instr.sliceBound (.int k i) y c).run P w = .ok i.toNat w := by
  unfold Instr.sliceBound
  simp [asIntOf, h0, h1]

theorem ends_gives {P : Program} {w : World} {isS : Bool} {len most mostA : Nat} {lo hi : Option Operand} {ev : Operand → Value} {ρ : Mp} {r : List AV} {l h : Nat} {q : Bool}
    (hR : Rs ρ r ((lo.toList ++ hi.toList).map ev)) (he : ends lo.isSome hi.isSome len mostA r = some (l, h, q)) (hq : q = true) (hlm : len ≤ most) (hA : mostA ≤ most) :
    (Instr.sliceBounds isS len most (lo.map ev) (hi.map ev) none).run P w = .ok (l, h, most) w ∧ l ≤ h ∧ h ≤ max len mostA := by
  subst hq
  unfold Instr.sliceBounds
  cases lo with
  | none =>
    cases hi with
    | none =>
      simp only [Option.toList, List.append_nil, List.map_nil] at hR
      cases hR
      simp only [ends, Option.isSome] at he
      simp only [Option.some.injEq, Prod.mk.injEq] at he
      obtain ⟨rfl, rfl, _⟩ := he
      refine ⟨by simp, by omega, by omega⟩
    | some b =>
      simp only [Option.toList, List.nil_append, List.map_cons, List.map_nil] at hR
      cases hR with
      | cons hb hs =>
        cases hs
        rename_i x
        cases x <;> simp only [ends, Option.isSome, reduceCtorEq, Option.some.injEq, Prod.mk.injEq] at he
        rename_i k n
        obtain ⟨rfl, rfl, hq⟩ := he
        generalize hV : ev b = V at hb
        cases hb
        simp only [Bool.and_eq_true, decide_eq_true_eq] at hq
        refine ⟨?_, by omega, by omega⟩
        simp only [Option.map_none, Option.map_some, hV, Sem.run_bind, Sem.run_pure, Result.andThen_ok]
        rw [sliceBound_ok hq.1 (by omega)]
        simp only [Result.andThen_ok]
  | some a =>
    cases hi with
    | none =>
      simp only [Option.toList, List.append_nil, List.map_cons, List.map_nil] at hR
      cases hR with
      | cons hb hs =>
        cases hs
        rename_i x
        cases x <;> simp only [ends, Option.isSome, reduceCtorEq, Option.some.injEq, Prod.mk.injEq] at he
        rename_i k n
        obtain ⟨rfl, rfl, hq⟩ := he
        generalize hV : ev a = V at hb
        cases hb
        simp only [Bool.and_eq_true, decide_eq_true_eq] at hq
        refine ⟨?_, by omega, by omega⟩
        simp only [Option.map_none, Option.map_some, hV, Sem.run_bind, Sem.run_pure, Result.andThen_ok, Option.isSome_none, Bool.false_eq_true, if_false]
        rw [sliceBound_ok hq.1 (by omega)]
        simp only [Result.andThen_ok]
    | some b =>
      simp only [Option.toList, List.cons_append, List.nil_append, List.map_cons, List.map_nil] at hR
      cases hR with
      | cons ha hs =>
        cases hs with
        | cons hb hs =>
        cases hs
        rename_i x y
        cases x <;> cases y <;> simp only [ends, Option.isSome, reduceCtorEq, Option.some.injEq, Prod.mk.injEq] at he
        rename_i k n k' n'
        obtain ⟨rfl, rfl, hq⟩ := he
        generalize hV : ev a = V at ha
        generalize hW : ev b = W at hb
        cases ha; cases hb
        simp only [Bool.and_eq_true, decide_eq_true_eq] at hq
        refine ⟨?_, by omega, by omega⟩
        simp only [Option.map_none, Option.map_some, hV, hW, Sem.run_bind, Sem.run_pure, Result.andThen_ok, Option.isSome_none, Bool.false_eq_true, if_false]
        rw [sliceBound_ok hq.1.1.1 (by omega)]
        simp only [Result.andThen_ok]
        rw [sliceBound_ok hq.1.2 (by omega)]
        simp only [Result.andThen_ok]

theorem Rs1 {ρ : Mp} {vs : List AV} {X : Value} (h : Rs ρ vs [X]) : ∃ x, vs = [x] ∧ R ρ x X := by
  cases h with
  | cons hx hs => cases hs; exact ⟨_, rfl, hx⟩
theorem Rs2 {ρ : Mp} {vs : List AV} {X Y : Value} (h : Rs ρ vs [X, Y]) : ∃ x y, vs = [x, y] ∧ R ρ x X ∧ R ρ y Y := by
  cases h with
  | cons hx hs =>
    obtain ⟨y, rfl, hy⟩ := Rs1 hs
    exact ⟨_, _, rfl, hx, hy⟩
theorem RsC {ρ : Mp} {vs : List AV} {X : Value} {Xs : List Value} (h : Rs ρ vs (X :: Xs)) : ∃ x r, vs = x :: r ∧ R ρ x X ∧ Rs ρ r Xs := by
  cases h with
  | cons hx hs => exact ⟨_, _, rfl, hx, hs⟩

section
variable {P : Program} {ρ : Mp} {ev : Operand → Value}

theorem mv_gives {v : AV} {sy : Bool} {x : Operand} {vs : List AV} (hx : execK sy .mv vs = some (v, true)) (hR : Rs ρ vs [ev x]) : R ρ v (ev x) := by
  obtain ⟨y, rfl, hy⟩ := Rs1 hR
  simp only [execK, Option.some.injEq, Prod.mk.injEq] at hx
  obtain ⟨rfl, _⟩ := hx; exact hy

theorem nilck_gives {v : AV} {sy : Bool} {X : Value} {vs : List AV} (hx : execK sy .nilck vs = some (v, true)) (hR : Rs ρ vs [X]) :
    R ρ v X ∧ ((∃ a, X = .pointer (some a)) ∨ (∃ f a b, X = .func (.func f) a b) ∨ (∃ l a b, X = .func (.yield l) a b)) := by
  obtain ⟨y, rfl, hy⟩ := Rs1 hR
  cases y <;> simp only [execK, Option.some.injEq, Prod.mk.injEq, reduceCtorEq] at hx <;> (obtain ⟨rfl, _⟩ := hx; refine ⟨hy, ?_⟩; cases hy)
  · exact .inl ⟨_, rfl⟩
  · exact .inr (.inl ⟨_, _, _, rfl⟩)
  · exact .inr (.inr ⟨_, _, _, rfl⟩)

theorem un_gives {v : AV} {sy : Bool} {op : UnOp} {pk : PK} {X : Value} {vs : List AV} (hk : pk = (match op with | .neg => .neg | .not => .not | _ => .xor)) (hop : op ≠ .plus)
    (hx : execK sy pk vs = some (v, true)) (hR : Rs ρ vs [X]) : ∃ V, R ρ v V ∧ ∀ w, (Op.unary op X).run P w = .ok V w := by
  obtain ⟨y, rfl, hy⟩ := Rs1 hR
  subst hk
  cases op with
  | plus => exact absurd rfl hop
  | neg =>
    cases y <;> simp only [execK, Option.some.injEq, Prod.mk.injEq, reduceCtorEq] at hx
    · obtain ⟨rfl, _⟩ := hx; cases hy
      exact ⟨_, .int _ _, fun w => by simp [Op.unary, Op.intArith]⟩
    · obtain ⟨rfl, _⟩ := hx; cases hy
      exact ⟨_, mkS_R _ _ _, fun w => by simp [Op.unary, Op.intArith, Sx.den, opI]⟩
  | not =>
    cases y <;> simp only [execK, Option.some.injEq, Prod.mk.injEq, reduceCtorEq] at hx
    obtain ⟨rfl, _⟩ := hx; cases hy
    exact ⟨_, .bool _, fun w => by simp [Op.unary]⟩
  | xor =>
    cases y <;> simp only [execK, Option.some.injEq, Prod.mk.injEq, reduceCtorEq] at hx
    · obtain ⟨rfl, _⟩ := hx; cases hy
      exact ⟨_, .int _ _, fun w => by
        simp only [Op.unary, Op.intBits]
        rw [Sem.run_pure, BitVec.toNat_xor, toNat_ofInt, toNat_ofInt, wr_eq]; rfl⟩
    · obtain ⟨rfl, _⟩ := hx; cases hy
      exact ⟨_, mkS_R _ _ _, fun w => by
        simp only [Op.unary, Op.intBits]
        rw [Sem.run_pure, BitVec.toNat_xor, toNat_ofInt, toNat_ofInt]; rfl⟩

theorem conv_gives {v : AV} {sy : Bool} {k : IntKind} {s d : TypeId} {ds : TypeDesc} {X : Value} {vs : List AV} (hs : P.underlying s = some ds) (hd : P.underlying d = some (.int k))
    (hx : execK sy (.conv k) vs = some (v, true)) (hR : Rs ρ vs [X]) : ∃ V, R ρ v V ∧ ∀ w, (convert s d X).run P w = .ok V w := by
  obtain ⟨y, rfl, hy⟩ := Rs1 hR
  cases y <;> simp only [execK, Option.some.injEq, Prod.mk.injEq, reduceCtorEq] at hx
  · obtain ⟨rfl, _⟩ := hx; cases hy
    exact ⟨_, .int _ _, fun w => by
      unfold convert
      simp only [Sem.run_bind, r_und hs, r_und hd, Result.andThen_ok, Conv.intToInt, Sem.run_pure, wr_eq]⟩
  · obtain ⟨rfl, _⟩ := hx; cases hy
    exact ⟨_, mkS_R _ _ _, fun w => by
      unfold convert
      simp only [Sem.run_bind, r_und hs, r_und hd, Result.andThen_ok, Conv.intToInt, Sem.run_pure]; rfl⟩
theorem convS_gives {v : AV} {sy : Bool} {s d : TypeId} {X : Value} {vs : List AV} (hs : P.underlying s = some .string) (hd : P.underlying d = some .string)
    (hx : execK sy .convS vs = some (v, true)) (hR : Rs ρ vs [X]) : ∃ V, R ρ v V ∧ ∀ w, (convert s d X).run P w = .ok V w := by
  obtain ⟨y, rfl, hy⟩ := Rs1 hR
  cases y <;> simp only [execK, Option.some.injEq, Prod.mk.injEq, reduceCtorEq] at hx
  obtain ⟨rfl, _⟩ := hx; cases hy
  exact ⟨_, .str _, fun w => by
    unfold convert
    simp only [Sem.run_bind, r_und hs, r_und hd, Result.andThen_ok, Sem.run_pure]⟩
theorem mkI_gives {v : AV} {sy : Bool} {t : TypeId} {d : TypeDesc} {X : Value} {vs : List AV} (hs : P.underlying t = some d) (hd : ∀ m, d ≠ .interface m)
    (hx : execK sy (.mkI t) vs = some (v, true)) (hR : Rs ρ vs [X]) : ∃ V, R ρ v V ∧ ∀ w, (Instr.makeInterface t X).run P w = .ok V w := by
  obtain ⟨y, rfl, hy⟩ := Rs1 hR
  simp only [execK, Option.some.injEq, Prod.mk.injEq] at hx
  obtain ⟨rfl, _⟩ := hx
  refine ⟨_, .iface t hy, fun w => ?_⟩
  unfold Instr.makeInterface
  simp only [Sem.run_bind, r_und hs, Result.andThen_ok]
  cases d <;> first | exact absurd rfl (hd _) | rfl
theorem mkF_gives {v : AV} {sy : Bool} {f : FuncId} {A B : Array Operand} {vs : List AV}
    (hx : execK sy (.mkF f A.toList.length) vs = some (v, true)) (hR : Rs ρ vs ((A.toList ++ B.toList).map ev)) :
    ∃ V, R ρ v V ∧ ∀ w, (Instr.makeFunc (.func f) (A.map ev) (B.map ev)).run P w = .ok V w := by
  simp only [execK, Option.some.injEq, Prod.mk.injEq] at hx
  obtain ⟨rfl, _⟩ := hx
  have h1 := Rs.take A.toList.length hR
  have h2 := Rs.drop A.toList.length hR
  rw [List.map_append, List.take_left' (by simp)] at h1
  rw [List.map_append, List.drop_left' (by simp)] at h2
  refine ⟨_, .fn f h1 h2, fun w => ?_⟩
  have e1 : (A.map ev) = ⟨A.toList.map ev⟩ := by apply Array.toList_inj.1; simp
  have e2 : (B.map ev) = ⟨B.toList.map ev⟩ := by apply Array.toList_inj.1; simp
  rw [e1, e2]; rfl
theorem ext_gives {v : AV} {sy : Bool} {i : Nat} {X : Value} {vs : List AV}
    (hx : execK sy (.ext i) vs = some (v, true)) (hR : Rs ρ vs [X]) : ∃ V, R ρ v V ∧ ∀ w, (Instr.extract X i).run P w = .ok V w := by
  obtain ⟨y, rfl, hy⟩ := Rs1 hR
  cases y <;> simp only [execK, reduceCtorEq] at hx
  rename_i l
  split at hx
  · rename_i u hu
    simp only [Option.some.injEq, Prod.mk.injEq] at hx
    obtain ⟨rfl, _⟩ := hx
    cases hy with
    | tup h =>
      obtain ⟨U, hU, hRU⟩ := Rs.get h hu
      refine ⟨U, hRU, fun w => ?_⟩
      simp [Instr.extract, hU]
  · cases hx
theorem fa_gives {v : AV} {sy : Bool} {s : TypeId} {fs : Array Field} {f : Nat} {fd : Field} {i : TypeInfo} {X : Value} {vs : List AV} (hs : P.underlying s = some (.struct fs))
    (hf : fs[f]? = some fd) (hi : P.info? fd.type = some i) (h0 : i.size ≠ 0)
    (hx : execK sy (.fa fd.offset) vs = some (v, true)) (hR : Rs ρ vs [X]) : ∃ V, R ρ v V ∧ ∀ w, (Instr.fieldAt s X f).run P w = .ok V w := by
  obtain ⟨y, rfl, hy⟩ := Rs1 hR
  cases y <;> simp only [execK, Option.some.injEq, Prod.mk.injEq, reduceCtorEq] at hx
  obtain ⟨rfl, -⟩ := hx
  cases hy with
  | ptr h =>
    rename_i id off e
    have := R.ptr (off := off + fd.offset) h
    refine ⟨_, this, fun w => ?_⟩
    unfold Instr.fieldAt
    simp only [Sem.run_bind, r_und hs, Result.andThen_ok, hf, Instr.sureAddr, Sem.run_pure]
    unfold fieldPlace
    simp only [Sem.run_bind, r_size hi, Result.andThen_ok, h0, if_false, Sem.run_pure, Addr.add]
    split
    · rename_i hz; simp [hz]
    · simp [Nat.add_assoc]
theorem part_run {t : TypeId} {d : TypeDesc} {i : TypeInfo} {w : World} {cs : List Value} {off : Nat} (hd : P.underlying t = some d) (hi : P.info? t = some i) :
    (part t ⟨cs⟩ off).run P w = if isAggD d then .ok (.agg ⟨(cs.drop off).take i.size⟩) w else match cs[off]? with
      | some v => .ok v w
      | none => .halt (.stuck "part: no such cell") w := by
  unfold part
  simp only [Sem.run_bind, r_agg hd, Result.andThen_ok]
  cases isAggD d with
  | true =>
    simp only [if_true, Sem.run_bind, r_size hi, Result.andThen_ok, Sem.run_pure]
    congr 2
    apply Array.toList_inj.1
    simp [List.drop_take]
  | false =>
    simp only [Bool.false_eq_true, if_false, List.getElem?_toArray]
    cases cs[off]? <;> rfl
theorem part_gives {t : TypeId} {d : TypeDesc} {i : TypeInfo} {cs : List AV} {Cs : List Value} {off : Nat} {v : AV} (hd : P.underlying t = some d) (hi : P.info? t = some i)
    (hR : Rs ρ cs Cs) (hx : (match isAggD d with
      | true => some (AV.agg ((cs.drop off).take i.size))
      | false => cs[off]?) = some v) : ∃ V, R ρ v V ∧ ∀ w, (part t ⟨Cs⟩ off).run P w = .ok V w := by
  cases hA : isAggD d with
  | true =>
    simp only [hA, Option.some.injEq] at hx
    subst hx
    exact ⟨_, .agg (Rs.take _ (Rs.drop _ hR)), fun w => by rw [part_run hd hi, hA]; rfl⟩
  | false =>
    simp only [hA] at hx
    obtain ⟨V, hV, hRV⟩ := Rs.get hR hx
    exact ⟨V, hRV, fun w => by rw [part_run hd hi, hA, hV]; rfl⟩
theorem fld_gives {v : AV} {sy : Bool} {s : TypeId} {fs : Array Field} {f : Nat} {fd : Field} {i : TypeInfo} {d : TypeDesc} {X : Value} {vs : List AV} (hs : P.underlying s = some (.struct fs))
    (hf : fs[f]? = some fd) (hi : P.info? fd.type = some i) (hd : P.underlying fd.type = some d)
    (hx : execK sy (.fld fd.offset i.size (isAggD d)) vs = some (v, true)) (hR : Rs ρ vs [X]) : ∃ V, R ρ v V ∧ ∀ w, (Instr.field s X f).run P w = .ok V w := by
  obtain ⟨y, rfl, hy⟩ := Rs1 hR
  cases y <;> simp only [execK, reduceCtorEq] at hx
  rename_i cs
  cases hy with
  | agg h =>
    have : (match isAggD d with
      | true => some (AV.agg ((cs.drop fd.offset).take i.size))
      | false => cs[fd.offset]?) = some v := by
      split at hx
      · simp only [Option.some.injEq, Prod.mk.injEq] at hx; simp [*, hx.1]
      · split at hx
        · simp only [Option.some.injEq, Prod.mk.injEq] at hx; simp [*, hx.1]
        · cases hx
    obtain ⟨V, hV, hr⟩ := part_gives hd hi h this
    refine ⟨V, hV, fun w => ?_⟩
    unfold Instr.field
    simp only [Sem.run_bind, r_und hs, Result.andThen_ok, hf, asAgg, Sem.run_pure, hr]
theorem iaS_gives {v : AV} {sy : Bool} {t e : TypeId} {j : TypeInfo} {X I : Value} {vs : List AV} (ht : P.underlying t = some (.slice e)) (hj : P.info? e = some j)
    (hx : execK sy (.iaS j.size) vs = some (v, true)) (hR : Rs ρ vs [X, I]) : ∃ V, R ρ v V ∧ ∀ w, (Instr.indexAt t X I).run P w = .ok V w := by
  obtain ⟨y, z, rfl, hy, hz⟩ := Rs2 hR
  cases y <;> simp only [execK, reduceCtorEq] at hx
  cases z <;> simp only [Option.some.injEq, Prod.mk.injEq, reduceCtorEq, Bool.and_eq_true, decide_eq_true_eq] at hx
  obtain ⟨rfl, h0, h1⟩ := hx
  rename_i id off len cap k i
  cases hz
  cases hy with
  | sl h hl =>
    have := R.ptr (off := off + i.toNat * j.size) h
    refine ⟨_, this, fun w => ?_⟩
    unfold Instr.indexAt
    simp only [Sem.run_bind, asIntOf, r_und ht, Result.andThen_ok, Sem.run_pure, h0, h1, and_self, if_true, r_size hj, Addr.add]
    split
    · rename_i hz; simp [hz]
    · simp [Nat.add_assoc]
  | sl0 h => omega
theorem iaA_gives {v : AV} {sy : Bool} {t e : TypeId} {n : Nat} {j : TypeInfo} {X I : Value} {vs : List AV} (ht : P.underlying t = some (.array n e)) (hj : P.info? e = some j)
    (hx : execK sy (.iaA n j.size) vs = some (v, true)) (hR : Rs ρ vs [X, I]) : ∃ V, R ρ v V ∧ ∀ w, (Instr.indexAt t X I).run P w = .ok V w := by
  obtain ⟨y, z, rfl, hy, hz⟩ := Rs2 hR
  cases y <;> simp only [execK, reduceCtorEq] at hx
  cases z <;> simp only [Option.some.injEq, Prod.mk.injEq, reduceCtorEq, Bool.and_eq_true, decide_eq_true_eq] at hx
  obtain ⟨rfl, h0, h1⟩ := hx
  rename_i id off k i
  cases hz
  cases hy with
  | ptr h =>
    have := R.ptr (off := off + i.toNat * j.size) h
    refine ⟨_, this, fun w => ?_⟩
    unfold Instr.indexAt
    simp only [Sem.run_bind, asIntOf, r_und ht, Result.andThen_ok, Sem.run_pure, Instr.sureAddr, h0, h1, and_self, if_true, r_size hj, Addr.add]
    split
    · rename_i hz; simp [hz]
    · simp [Nat.add_assoc]
theorem ixS_gives {v : AV} {sy : Bool} {t : TypeId} {X I : Value} {vs : List AV} (ht : P.underlying t = some .string)
    (hx : execK sy .ixS vs = some (v, true)) (hR : Rs ρ vs [X, I]) : ∃ V, R ρ v V ∧ ∀ w, (Instr.index t X I).run P w = .ok V w := by
  obtain ⟨y, z, rfl, hy, hz⟩ := Rs2 hR
  cases y <;> simp only [execK, reduceCtorEq] at hx
  cases z <;> simp only [reduceCtorEq] at hx
  rename_i s k i
  split at hx
  · rename_i b hb
    simp only [Option.some.injEq, Prod.mk.injEq, decide_eq_true_eq] at hx
    obtain ⟨rfl, h0⟩ := hx
    cases hy; cases hz
    refine ⟨_, .int _ _, fun w => ?_⟩
    have hsz : (bs s).size = s.length := bs_size s
    have hlt : i.toNat < s.length := by
      rcases Nat.lt_or_ge i.toNat s.length with h | h
      · exact h
      · rw [List.getElem?_eq_none h] at hb; cases hb
    have hget : (bs s)[i.toNat]? = some (UInt8.ofNat b) := by
      have h2 : i.toNat < (bs s).size := by rw [hsz]; exact hlt
      rw [getElem?_pos (bs s) i.toNat h2]
      have : (bs s)[i.toNat] = (bs s).data[i.toNat]'h2 := rfl
      rw [this]
      rw [List.getElem?_eq_getElem hlt] at hb
      simp only [Option.some.injEq] at hb
      simp [bs, hb]
    unfold Instr.index
    simp only [Sem.run_bind, asIntOf, r_und ht, Result.andThen_ok, Sem.run_pure, h0, if_true, hget]
    simp
  · cases hx
theorem ixA_gives {v : AV} {sy : Bool} {t e : TypeId} {n : Nat} {j : TypeInfo} {d : TypeDesc} {X I : Value} {vs : List AV} (ht : P.underlying t = some (.array n e)) (hj : P.info? e = some j)
    (hd : P.underlying e = some d)
    (hx : execK sy (.ixA n j.size (isAggD d)) vs = some (v, true)) (hR : Rs ρ vs [X, I]) : ∃ V, R ρ v V ∧ ∀ w, (Instr.index t X I).run P w = .ok V w := by
  obtain ⟨y, z, rfl, hy, hz⟩ := Rs2 hR
  cases y <;> simp only [execK, reduceCtorEq] at hx
  cases z <;> simp only [reduceCtorEq] at hx
  rename_i cs k i
  cases hz
  cases hy with
  | agg h =>
    have hh : (match isAggD d with
      | true => some (AV.agg ((cs.drop (i.toNat * j.size)).take j.size))
      | false => cs[i.toNat * j.size]?) = some v ∧ 0 ≤ i ∧ i < (n : Int) := by
      split at hx
      · simp only [Option.some.injEq, Prod.mk.injEq, Bool.and_eq_true, decide_eq_true_eq] at hx; simp [*, hx.1]
      · split at hx
        · simp only [Option.some.injEq, Prod.mk.injEq, Bool.and_eq_true, decide_eq_true_eq] at hx; simp [*, hx.1]
        · cases hx
    obtain ⟨h1, h2, h3⟩ := hh
    obtain ⟨V, hV, hr⟩ := part_gives hd hj h h1
    refine ⟨V, hV, fun w => ?_⟩
    unfold Instr.index
    simp only [Sem.run_bind, asIntOf, r_und ht, Result.andThen_ok, Sem.run_pure, h2, h3, and_self, if_true, r_size hj, hr]
end
end Ev
end Go.Proofs.YtakgohocimlagaaGreat
