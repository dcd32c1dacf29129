/-
  An evaluator over plain data (11): operations that write: all in one theorem. Of no program. No condition.
-/
import Derived.Test.YtakgohocimlagaaGreatEvJ
namespace Go.Proofs.YtakgohocimlagaaGreat
namespace Ev
variable [E : Inhabited EnvT]
set_option linter.unusedVariables false
set_option linter.unusedSectionVars false
set_option linter.unusedSimpArgs false
open Go.RowKit Go.IntWalk

inductive EK where
  | st (sz : Nat)
  | app (z bytes : Nat) (zl : List AV) (zeros : Bool)
  | cpy (z : Nat)
  | put (c : KC)
  | del (c : KC)

def setE (k v : AV) : List (AV × AV × Nat) → Nat → List (AV × AV × Nat)
  | [], _ => []
  | (_, _, b) :: r, 0 => (k, v, b) :: r
  | x :: r, j + 1 => x :: setE k v r j

/-- the first k elements of what is copied -/
def cpyX (z len : Nat) (x : AV) (m : T Slot) : Option (List AV × Nat) := match x with
  | .sl id off l _ => match m.get id with
    | some ⟨.row cs _, _, _⟩ => match Nat.ble (off + Nat.min l len * z) cs.length with
      | true => some ((cs.drop off).take (Nat.min l len * z), Nat.min l len)
      | false => none
    | _ => none
  | .nils => some ([], 0)
  | .str s => match z with
    | 1 => some ((s.take (Nat.min s.length len)).map fun b => .int .u8 (.ofNat (b % 256)), Nat.min s.length len)
    | _ => none
  | _ => none

def execE (k : EK) (vs : List AV) (m : T Slot) (n : Nat) : Option (AV × T Slot × Nat × Bool) := match k, vs with
  | .st sz, [.ptr id off, v] => match m.get id with
    | some ⟨.row cs ext, _, true⟩ => match Nat.beq (cellsA v).length sz && Nat.ble (off + sz) cs.length && scals (cellsA v) with
      | true => fL (overL cs off (cellsA v)) fun cs' => some (.tup [], m.set id ⟨.row cs' ext, n, true⟩, n + 1, true)
      | false => none
    | _ => none
  | .app z bytes zl zeros, [s, x] => execApp z bytes zl zeros s x m n
  | .cpy z, [.nils, x] => match cpyX z 0 x m with
    | some (xs, k) => some (.int .i64 (.ofNat k), m, n, true)
    | none => none
  | .cpy z, [.sl id off len _, x] => match cpyX z len x m with
    | some (xs, k) => match k with
      | 0 => some (.int .i64 (.ofNat 0), m, n, true)
      | _ => match m.get id with
        | some ⟨.row cs ext, _, true⟩ => match Nat.ble (off + xs.length) cs.length && scals xs && Nat.blt 0 len with
          | true => fL (overL cs off xs) fun cs' => some (.int .i64 (.ofNat k), m.set id ⟨.row cs' ext, n, true⟩, n + 1, true)
          | false => none
        | _ => none
    | none => none
  | .put c, [.map id, k, v] => match m.get id with
    | some ⟨.map es cl, _, true⟩ => match findA c k es 0 with
      | some (some (j, _)) => fL (setE k v es j) fun es' => some (.tup [], m.set id ⟨.map es' cl, n, true⟩, n + 1, true)
      | some none => fL (es ++ [(k, v, cl)]) fun es' => some (.tup [], m.set id ⟨.map es' (cl + 1), n, true⟩, n + 1, true)
      | none => none
    | _ => none
  | .del c, [.map id, k] => match m.get id with
    | some ⟨.map es cl, _, true⟩ => match findA c k es 0 with
      | some (some (j, _)) => fL (es.eraseIdx j) fun es' => some (.tup [], m.set id ⟨.map es' cl, n, true⟩, n + 1, true)
      | some none => some (.tup [], m, n, true)
      | none => none
    | _ => none
  | .del c, [.nilm, k] => some (.tup [], m, n, true)
  | _, _ => none

def compE (P : Program) : Op → Option (EK × List Operand)
  | .store t a v => match P.info? t with
    | some i => some (.st i.size, [a, v])
    | none => none
  | .mapUpdate t mp k v | .insert t mp k v => match P.underlying t with
    | some (.map kt _) => match P.underlying kt with
      | some d => match keyOk d with
        | some c => some (.put c, [mp, k, v])
        | none => none
      | none => none
    | _ => none
  | .call c => match c.callee with
    | .builtin .append => match c.argTypes[0]?, c.argTypes[1]? with
      | some t0, some t1 => match P.underlying t0, P.underlying t1 with
        | some (.slice e), some d1 => match P.info? e, zeroOf P e with
          | some j, some zl => if zl.length = j.size ∧ 0 < j.size ∧ c.args.size = 2 then some (.app j.size j.bytes zl (isIntD d1), c.args.toList) else none
          | _, _ => none
        | _, _ => none
      | _, _ => none
    | .builtin .copy => match c.argTypes[0]? with
      | some t0 => match P.underlying t0 with
        | some (.slice e) => match P.info? e with
          | some j => if c.args.size = 2 then some (.cpy j.size, c.args.toList) else none
          | none => none
        | _ => none
      | none => none
    | .builtin .delete => match c.argTypes[0]? with
      | some t0 => match P.underlying t0 with
        | some (.map kt _) => match P.underlying kt with
          | some d => match keyOk d with
            | some kc => if c.args.size = 2 then some (.del kc, c.args.toList) else none
            | none => none
          | none => none
        | _ => none
      | none => none
    | _ => none
  | _ => none

section
variable {P : Program} {ρ : Mp} {ev : Operand → Value}

/-! ### maps -/
theorem findNow_at {d : TypeDesc} {K : Value} : ∀ {Es : List MapEntry} {i j : Nat} {V : Value}, Instr.findNow d K Es i = some (some (j, V)) →
    i ≤ j ∧ ∃ E, Es[j - i]? = some E ∧ Instr.sameNow d K E.key = some true
  | [], i, j, V, h => by simp [Instr.findNow] at h
  | E :: Es, i, j, V, h => by
    simp only [Instr.findNow] at h
    split at h
    · rename_i hs
      simp only [Option.some.injEq, Prod.mk.injEq] at h
      obtain ⟨rfl, _⟩ := h
      exact ⟨Nat.le_refl _, E, by simp, hs⟩
    · obtain ⟨h1, E', h2, h3⟩ := findNow_at h
      refine ⟨by omega, E', ?_, h3⟩
      have : j - i = (j - (i + 1)) + 1 := by omega
      rw [this]; simpa using h2
    · cases h
theorem sameBits_of {d : TypeDesc} {K K' : Value} (h : Instr.sameNow d K K' = some true) : Instr.sameBits 10000 K' K = true := by
  unfold Instr.sameNow at h
  split at h
  · split at h
    · rename_i hk
      simp only [Option.some.injEq, beq_iff_eq] at h
      subst hk; subst h
      simp [Instr.sameBits]
    · cases h
  · simp only [Option.some.injEq] at h
    rw [beq_toListBytes] at h
    simp only [Instr.sameBits]
    rw [beq_toListBytes]
    simp only [beq_iff_eq] at h ⊢
    exact h.symm
  · simp only [Option.some.injEq, beq_iff_eq] at h; subst h; simp [Instr.sameBits]
  · cases h
theorem REs_set {k v : AV} {K V : Value} (hk : R ρ k K) (hv : R ρ v V) : ∀ {es : List (AV × AV × Nat)} {Es : List MapEntry} (j : Nat), REs ρ es Es →
    REs ρ (setE k v es j) (Es.modify j fun e => { e with key := K, val := V })
  | _, _, j, .nil => by cases j <;> simpa [setE] using REs.nil
  | _, _, 0, .cons hk' hv' hs => by simpa [setE] using REs.cons hk hv hs
  | _, _, j + 1, .cons hk' hv' hs => by simpa [setE] using REs.cons hk' hv' (REs_set hk hv j hs)
theorem REs_erase : ∀ {es : List (AV × AV × Nat)} {Es : List MapEntry} (j : Nat), REs ρ es Es → REs ρ (es.eraseIdx j) (Es.eraseIdx j)
  | _, _, j, .nil => by simpa using REs.nil
  | _, _, 0, .cons hk' hv' hs => by simpa using hs
  | _, _, j + 1, .cons hk' hv' hs => by simpa using REs.cons hk' hv' (REs_erase j hs)
theorem REs_snoc {k v : AV} {K V : Value} {b : Nat} (hk : R ρ k K) (hv : R ρ v V) : ∀ {es : List (AV × AV × Nat)} {Es : List MapEntry}, REs ρ es Es → REs ρ (es ++ [(k, v, b)]) (Es ++ [⟨K, V, b⟩])
  | _, _, .nil => .cons hk hv .nil
  | _, _, .cons hk' hv' hs => .cons hk' hv' (REs_snoc hk hv hs)
theorem setMap_run {w : World} {B : Nat} {x : Obj} {Es : List MapEntry} {cl : Nat} (h : w.heap[B]? = some (.map ⟨Es⟩ cl)) :
    (setObj B x).run P w = .ok () { w with heap := w.heap.setIfInBounds B x } := by
  simp [setObj, Sem.run, h]
theorem set_step {w : World} {m : Mem} {n id : Nat} {e : Ent} {s : Slot} {o : AO} {x : Obj} (hS : Sim ρ m w) (he : ρ id = some e) (hm : m id = some s) (hmu : s.mu = true) (hd : s.o ≠ .dead) (hr : Rel ρ o e x)
    (m' : Mem) (hm' : ∀ i, m' i = m.put id ⟨o, n, true⟩ i) : Step ρ m n w ρ m' (n + 1) { w with heap := w.heap.setIfInBounds e.blk x } := by
  have hlt := hS.lt id e he
  refine Step.write (w' := { w with heap := w.heap.setIfInBounds e.blk x }) hS he hm hmu hd o ⟨rfl, rfl, rfl⟩ (by simp) (fun b hb => ?_) ⟨x, ?_, hr⟩ m' hm'
  · show (w.heap.setIfInBounds e.blk x)[b]? = _
    rw [Array.getElem?_setIfInBounds_ne (Ne.symm hb)]
  · show (w.heap.setIfInBounds e.blk x)[e.blk]? = _
    rw [Array.getElem?_setIfInBounds_self_of_lt hlt]

theorem put_gives {t kt et : TypeId} {d : TypeDesc} {kc : KC} {M K V : Value} {vs : List AV} {m m' : T Slot} {n n' : Nat} {v : AV} {w : World} (ht : P.underlying t = some (.map kt et)) (hu : P.underlying kt = some d)
    (hd : keyOk d = some kc) (hx : execE (.put kc) vs m n = some (v, m', n', true)) (hR : Rs ρ vs [M, K, V]) (hS : Sim ρ m.get w) :
    ∃ w', (Instr.mapUpdate t M K V).run P w = .ok () w' ∧ R ρ v undef ∧ Step ρ m.get n w ρ m'.get n' w' := by
  obtain ⟨a, r, rfl, ha, hr⟩ := RsC hR
  obtain ⟨k, u, rfl, hk, hv⟩ := Rs2 hr
  cases a <;> simp only [execE, reduceCtorEq] at hx
  rename_i id
  split at hx <;> (try (cases hx; done))
  rename_i es cl st hm
  cases ha with
  | map he =>
    rename_i e
    obtain ⟨x, hxx, hrel⟩ := hS.rel id e _ he hm
    obtain ⟨Es, rfl, hEs⟩ := hrel
    unfold Instr.mapUpdate
    split at hx <;> (try (cases hx; done))
    · rename_i j u' hf
      rw [fL_eq] at hx; cases hx
      obtain ⟨V', hV', hfn, _, _⟩ := findA_ok hd hk hf hEs
      obtain ⟨_, E, hE, hsn⟩ := findNow_at hfn
      have hEj : Es[j]? = some E := by simpa using hE
      refine ⟨_, ?_, .tup .nil, set_step (x := .map ⟨Es.modify j fun e => { e with key := K, val := V }⟩ cl) (o := .map (setE k u es j) cl) hS he hm rfl (by simp) ⟨_, rfl, REs_set hk hv j hEs⟩ _ (fun i => T.get_set _ _ _ _)⟩
      simp only [Sem.run_bind, r_und ht, Result.andThen_ok, getMap_run hxx, checkKey_ok hu hd, findKey_ok (P := P) hu hfn w, Instr.keyThatStays]
      have hkey : (((⟨Es⟩ : Array MapEntry)[j]?).map (·.key)).getD K = E.key := by simp [hEj]
      rw [hkey, sameBits_of hsn]
      simp only [if_true, Sem.run_pure, Result.andThen_ok]
      rw [setMap_run hxx]
      congr 2
      congr 2
      apply Array.toList_inj.1
      simp
    · rename_i hf
      rw [fL_eq] at hx; cases hx
      have hfn := findA_ok hd hk hf hEs
      refine ⟨_, ?_, .tup .nil, set_step (x := .map ⟨Es ++ [⟨K, V, cl⟩]⟩ (cl + 1)) (o := .map (es ++ [(k, u, cl)]) (cl + 1)) hS he hm rfl (by simp) ⟨_, rfl, REs_snoc hk hv hEs⟩ _ (fun i => T.get_set _ _ _ _)⟩
      simp only [Sem.run_bind, r_und ht, Result.andThen_ok, getMap_run hxx, checkKey_ok hu hd, findKey_ok (P := P) hu hfn w]
      rw [setMap_run hxx]
      congr 2
      congr 2
      apply Array.toList_inj.1
      simp

theorem args_two {c : Array Operand} {vs : List AV} (hR : Rs ρ vs (c.toList.map ev)) (h2 : c.size = 2) : ∃ a b x y, vs = [a, b] ∧ (c.map ev)[0]? = some x ∧ (c.map ev)[1]? = some y ∧ R ρ a x ∧ R ρ b y := by
  have hl : c.toList.length = 2 := by simpa using h2
  match hc : c.toList, hl with
  | [p, q], _ =>
    rw [hc] at hR
    obtain ⟨a, b, rfl, ha, hb⟩ := Rs2 hR
    have e0 : c[0]? = some p := by rw [← Array.getElem?_toList, hc]; rfl
    have e1 : c[1]? = some q := by rw [← Array.getElem?_toList, hc]; rfl
    exact ⟨a, b, ev p, ev q, rfl, by simp [e0], by simp [e1], ha, hb⟩

theorem del_gives {t kt et ty : TypeId} {d : TypeDesc} {kc : KC} {ts : Array TypeId} {args : Array Value} {M K : Value} {a k : AV} {m m' : T Slot} {n n' : Nat} {v : AV} {w : World} (h0 : ts[0]? = some t)
    (ht : P.underlying t = some (.map kt et)) (hu : P.underlying kt = some d) (hd : keyOk d = some kc) (hx : execE (.del kc) [a, k] m n = some (v, m', n', true)) (ha : R ρ a M) (hk : R ρ k K)
    (e0 : args[0]? = some M) (e1 : args[1]? = some K) (hS : Sim ρ m.get w) :
    ∃ w', (Builtin.delete_ ts ty args).run P w = .ok undef w' ∧ R ρ v undef ∧ Step ρ m.get n w ρ m'.get n' w' := by
  cases a <;> simp only [execE, reduceCtorEq] at hx
  · cases hx; cases ha
    refine ⟨w, ?_, .tup .nil, Step.refl hS⟩
    unfold Builtin.delete_
    simp only [h0, e0, e1, Sem.run_bind, r_und ht, Result.andThen_ok, checkKey_ok hu hd, Sem.run_pure]; rfl
  · rename_i id
    split at hx <;> (try (cases hx; done))
    rename_i es cl st hm
    cases ha with
    | map he =>
      rename_i e
      obtain ⟨x, hxx, hrel⟩ := hS.rel id e _ he hm
      obtain ⟨Es, rfl, hEs⟩ := hrel
      unfold Builtin.delete_
      split at hx <;> (try (cases hx; done))
      · rename_i j u' hf
        rw [fL_eq] at hx; cases hx
        obtain ⟨V', hV', hfn, _, _⟩ := findA_ok hd hk hf hEs
        refine ⟨_, ?_, .tup .nil, set_step (x := .map ⟨Es.eraseIdx j⟩ cl) (o := .map (es.eraseIdx j) cl) hS he hm rfl (by simp) ⟨_, rfl, REs_erase j hEs⟩ _ (fun i => T.get_set _ _ _ _)⟩
        simp only [h0, e0, e1, Sem.run_bind, r_und ht, Result.andThen_ok, getMap_run hxx, checkKey_ok hu hd, findKey_ok (P := P) hu hfn w]
        rw [setMap_run hxx]
        simp only [Result.andThen_ok, Sem.run_pure]
        congr 2
        congr 2
        apply Array.toList_inj.1
        simp
      · rename_i hf
        cases hx
        have hfn := findA_ok hd hk hf hEs
        refine ⟨w, ?_, .tup .nil, Step.refl hS⟩
        simp only [h0, e0, e1, Sem.run_bind, r_und ht, Result.andThen_ok, getMap_run hxx, checkKey_ok hu hd, findKey_ok (P := P) hu hfn w]
        rw [setMap_run hxx]
        simp only [Result.andThen_ok, Sem.run_pure]
        have : w.heap.setIfInBounds e.blk (.map ⟨Es⟩ cl) = w.heap := by
          apply Array.ext_getElem?
          intro i
          by_cases hi : e.blk = i
          · subst hi; rw [Array.getElem?_setIfInBounds_self_of_lt (hS.lt id e he), hxx]
          · rw [Array.getElem?_setIfInBounds_ne hi]
        rw [this]; rfl

theorem cpyX_ok {z len : Nat} {x : AV} {X : Value} {m : T Slot} {xs : List AV} {k : Nat} {w : World} (hx : cpyX z len x m = some (xs, k)) (hR : R ρ x X) (hS : Sim ρ m.get w) :
    xs.length = k * z ∧ ∃ Xs L, Rs ρ xs Xs ∧ k = Nat.min L len ∧ (∀ w, (Builtin.lenOf X).run P w = .ok L w) ∧ (Builtin.firstCells z k X).run P w = .ok ⟨Xs⟩ w := by
  cases x <;> simp only [cpyX, reduceCtorEq] at hx
  · rename_i s
    split at hx <;> cases hx
    cases hR
    refine ⟨by simp, (s.take (Nat.min s.length len)).map (fun b => Value.int .u8 (b % 256 : Nat)), s.length, Rs_map fun i hi => .int _ _, rfl, fun w => by simp [Builtin.lenOf, bs_size], ?_⟩
    simp only [Builtin.firstCells, Sem.run_pure]
    congr 1
    apply Array.toList_inj.1
    have : (bs s).extract 0 (Nat.min s.length len) = bs (s.take (Nat.min s.length len)) := by
      have := bs_extract s 0 (Nat.min s.length len)
      simp only [List.drop_zero] at this; exact this.symm
    rw [this]
    simp [bs, Function.comp_def]
  · cases hx; cases hR
    exact ⟨by simp, [], 0, .nil, by simp, fun w => by simp [Builtin.lenOf], by simp [Builtin.firstCells]⟩
  · rename_i id off l cap
    split at hx <;> (try (cases hx; done))
    rename_i cs ext st mu hm
    split at hx <;> cases hx
    rename_i hb
    have hb := Nat.le_of_ble_eq_true hb
    have hlen : ((cs.drop off).take (Nat.min l len * z)).length = Nat.min l len * z := by simp; omega
    cases hR with
    | sl he hl =>
      rename_i e
      obtain ⟨x, hx, hrel⟩ := hS.rel id e _ he hm
      obtain ⟨c, el, fz, Cs, rfl, hRs, hcell, hsz, hle, _, _⟩ := hrel
      refine ⟨hlen, _, l, Rs.take (Nat.min l len * z) (Rs.drop off hRs), rfl, fun w => by simp [Builtin.lenOf], ?_⟩
      simp only [Builtin.firstCells]
      rw [loads_at hx (by omega), row_cells hRs hcell hb]
    | sl0 he =>
      have h0 : Nat.min 0 len = 0 := by simp
      simp only [h0, Nat.zero_mul, List.take_zero] at hlen ⊢
      exact ⟨rfl, [], 0, .nil, by simp, fun w => by simp [Builtin.lenOf], by simp [Builtin.firstCells]; rfl⟩
theorem cpy_gives {t elem ty : TypeId} {j : TypeInfo} {ts : Array TypeId} {args : Array Value} {D X : Value} {a x : AV} {m m' : T Slot} {n n' : Nat} {v : AV} {w : World} (h0 : ts[0]? = some t)
    (ht : P.underlying t = some (.slice elem)) (hj : P.info? elem = some j) (hx : execE (.cpy j.size) [a, x] m n = some (v, m', n', true)) (ha : R ρ a D) (hX : R ρ x X)
    (e0 : args[0]? = some D) (e1 : args[1]? = some X) (hS : Sim ρ m.get w) :
    ∃ V w', (Builtin.copy_ ts ty args).run P w = .ok V w' ∧ R ρ v V ∧ Step ρ m.get n w ρ m'.get n' w' := by
  cases a <;> simp only [execE, reduceCtorEq] at hx
  · split at hx <;> (try (cases hx; done))
    rename_i xs k hc
    cases hx; cases ha
    obtain ⟨hl, Xs, L, hXs, hk, hlen, hf⟩ := cpyX_ok (P := P) hc hX hS
    refine ⟨.int .i64 (.ofNat k), w, ?_, .int _ _, Step.refl hS⟩
    unfold Builtin.copy_
    simp only [h0, e0, e1, Sem.run_bind, r_und ht, Result.andThen_ok, hlen, r_size hj, ← hk, hf, Sem.run_pure]; rfl
  · rename_i id off len cap
    split at hx <;> (try (cases hx; done))
    rename_i xs k hc
    obtain ⟨hl, Xs, L, hXs, hk, hlen, hf⟩ := cpyX_ok (P := P) hc hX hS
    split at hx
    · cases hx
      have hXs0 : Xs = [] := by
        have := hXs.length; rw [hl] at this; simp at this; exact List.length_eq_zero_iff.1 this.symm
      subst hXs0
      refine ⟨.int .i64 0, w, ?_, .int _ _, Step.refl hS⟩
      cases ha <;> (
        unfold Builtin.copy_
        simp only [h0, e0, e1, Sem.run_bind, r_und ht, Result.andThen_ok, hlen, r_size hj, ← hk, hf, Sem.run_pure]; rfl)
    · rename_i hk0
      split at hx <;> (try (cases hx; done))
      rename_i cs ext st hm
      split at hx <;> (try (cases hx; done))
      rename_i hcond
      simp only [Bool.and_eq_true] at hcond
      rw [fL_eq] at hx; cases hx
      have hfit := Nat.le_of_ble_eq_true hcond.1.1
      have hl0 : 0 < len := Nat.le_of_ble_eq_true hcond.2
      cases ha with
      | sl0 he => omega
      | sl he hlc =>
        rename_i e
        obtain ⟨w', hr, hst⟩ := write_row (P := P) (k := off) hS he hm rfl rfl hXs hfit hcond.1.2 _ (fun i => T.get_set _ _ _ _)
        refine ⟨.int .i64 (.ofNat k), w', ?_, .int _ _, hst⟩
        unfold Builtin.copy_
        simp only [h0, e0, e1, Sem.run_bind, r_und ht, Result.andThen_ok, hlen, r_size hj, ← hk, hf, Sem.run_pure, hr]; rfl

theorem st_gives {t : TypeId} {i : TypeInfo} {A V : Value} {vs : List AV} {m m' : T Slot} {n n' : Nat} {v : AV} {w : World} (hi : P.info? t = some i)
    (hx : execE (.st i.size) vs m n = some (v, m', n', true)) (hR : Rs ρ vs [A, V]) (hS : Sim ρ m.get w) :
    ∃ w', (Instr.storeAt t A V).run P w = .ok () w' ∧ R ρ v undef ∧ Step ρ m.get n w ρ m'.get n' w' := by
  obtain ⟨a, u, rfl, ha, hu⟩ := Rs2 hR
  cases a <;> simp only [execE, reduceCtorEq] at hx
  rename_i id off
  split at hx <;> (try (cases hx; done))
  rename_i cs ext st hm
  split at hx <;> (try (cases hx; done))
  rename_i hcond
  simp only [Bool.and_eq_true] at hcond
  rw [fL_eq] at hx; cases hx
  have hsz := Nat.eq_of_beq_eq_true hcond.1.1
  have hfit := Nat.le_of_ble_eq_true hcond.1.2
  have hcells := R_cells hu
  cases ha with
  | ptr he =>
    rename_i e
    obtain ⟨w', hr, hst⟩ := write_row (P := P) (k := off) hS he hm rfl rfl hcells (by omega) hcond.2 _ (fun i => T.get_set _ _ _ _)
    refine ⟨w', ?_, .tup .nil, hst⟩
    unfold Instr.storeAt storeVar
    have : V.cells.size = i.size := by rw [← Array.length_toList, ← hcells.length, hsz]
    simp only [Instr.sureAddr, Sem.run_bind, Sem.run_pure, Result.andThen_ok, r_size hi, this, ne_eq, not_true_eq_false, if_false, hr]

/-- ALL WRITES. -/
theorem compE_gives {w : World} {o : Oper} {ek : EK} {xs : List Operand} {vs : List AV} {m m' : T Slot} {n n' : Nat} {v : AV} (hc : compE P o.op = some (ek, xs)) (hx : execE ek vs m n = some (v, m', n', true))
    (hR : Rs ρ vs (xs.map ev)) (hS : Sim ρ m.get w) (hn : ∀ id, n ≤ id → id < n' → ρ id = none) :
    ∃ ρ' V w', ((execOp ev o).run P w = .ok (.value V) w' ∨ ((execOp ev o).run P w = .ok .skip w' ∧ V = undef)) ∧ R ρ' v V ∧ Step ρ m.get n w ρ' m'.get n' w' := by
  have fin : ∀ {s : Sem Unit} {w' : World}, s.run P w = .ok () w' → (do s; pure .skip : Sem Next).run P w = .ok .skip w' := fun h => by simp [h]
  have finv : ∀ {s : Sem Value} {V : Value} {w' : World}, s.run P w = .ok V w' → (do pure (.value (← s)) : Sem Next).run P w = .ok (.value V) w' := fun h => by simp [h]
  unfold execOp
  cases hop : o.op <;> rw [hop] at hc <;> simp only [] <;> (try (simp only [compE, reduceCtorEq] at hc; done))
  case store t a u =>
    simp only [compE] at hc
    split at hc <;> cases hc
    rename_i i hi
    obtain ⟨w', hr, hv, hst⟩ := st_gives hi hx hR hS
    exact ⟨ρ, undef, w', .inr ⟨fin hr, rfl⟩, hv, hst⟩
  case mapUpdate t mp k u =>
    simp only [compE] at hc
    split at hc <;> (try (cases hc; done))
    rename_i kt et ht
    split at hc <;> (try (cases hc; done))
    rename_i d hu
    split at hc <;> cases hc
    rename_i kc hd
    obtain ⟨w', hr, hv, hst⟩ := put_gives ht hu hd hx hR hS
    exact ⟨ρ, undef, w', .inr ⟨fin hr, rfl⟩, hv, hst⟩
  case insert t mp k u =>
    simp only [compE] at hc
    split at hc <;> (try (cases hc; done))
    rename_i kt et ht
    split at hc <;> (try (cases hc; done))
    rename_i d hu
    split at hc <;> cases hc
    rename_i kc hd
    obtain ⟨w', hr, hv, hst⟩ := put_gives ht hu hd hx hR hS
    exact ⟨ρ, undef, w', .inr ⟨fin hr, rfl⟩, hv, hst⟩
  case call c =>
    simp only [compE] at hc
    split at hc <;> (try (cases hc; done))
    · rename_i hb
      split at hc <;> (try (cases hc; done))
      rename_i t0 t1 h0 h1
      split at hc <;> (try (cases hc; done))
      rename_i e d1 hu hu1
      split at hc <;> (try (cases hc; done))
      rename_i j zl hj hzl
      split at hc <;> cases hc
      rename_i hcond
      obtain ⟨hz1, hpos, h2⟩ := hcond
      obtain ⟨Z, hZ, hzr⟩ := zero_gives (ρ := ρ) hzl
      obtain ⟨a, b, X, Y, rfl, e0, e1, ha, hb'⟩ := args_two hR h2
      have hT : AppT P c.argTypes t0 t1 e d1 j Z := ⟨h0, h1, hu, hj, hu1, hzr, by have := hZ.length; simp at this; omega, hpos⟩
      obtain ⟨ρ', V, w', hr, hv, hst⟩ := app_gives (ty := o.type) hT hZ hx ha hb' e0 e1 hS hn
      refine ⟨ρ', V, w', .inl ?_, hv, hst⟩
      rw [call_builtin hb]
      exact finv hr
    · rename_i hb
      split at hc <;> (try (cases hc; done))
      rename_i t0 h0
      split at hc <;> (try (cases hc; done))
      rename_i e hu
      split at hc <;> (try (cases hc; done))
      rename_i j hj
      split at hc <;> cases hc
      rename_i h2
      obtain ⟨a, b, X, Y, rfl, e0, e1, ha, hb'⟩ := args_two hR h2
      obtain ⟨V, w', hr, hv, hst⟩ := cpy_gives (ty := o.type) h0 hu hj hx ha hb' e0 e1 hS
      refine ⟨ρ, V, w', .inl ?_, hv, hst⟩
      rw [call_builtin hb]
      exact finv hr
    · rename_i hb
      split at hc <;> (try (cases hc; done))
      rename_i t0 h0
      split at hc <;> (try (cases hc; done))
      rename_i kt et ht
      split at hc <;> (try (cases hc; done))
      rename_i d hu
      split at hc <;> (try (cases hc; done))
      rename_i kc hd
      split at hc <;> cases hc
      rename_i h2
      obtain ⟨a, b, X, Y, rfl, e0, e1, ha, hb'⟩ := args_two hR h2
      obtain ⟨w', hr, hv, hst⟩ := del_gives (ty := o.type) h0 ht hu hd hx ha hb' e0 e1 hS
      refine ⟨ρ, undef, w', .inl ?_, hv, hst⟩
      rw [call_builtin hb]
      exact finv hr
end
end Ev
end Go.Proofs.YtakgohocimlagaaGreat
