/-
  An evaluator over plain data (14): an operation's evaluation is the model's; a region in the order of its text. Of no program. No condition.
-/
import Derived.Test.YtakgohocimlagaaGreatEvM
namespace Go.Proofs.YtakgohocimlagaaGreat
namespace Ev
variable [E : Inhabited EnvT]
set_option linter.unusedVariables false
set_option linter.unusedSectionVars false
set_option linter.unusedSimpArgs false
open Go.RowKit Go.IntWalk

section
variable {P : Program} {G : Nat → Option Nat} {ρ : Mp} {nt : Nat} {tm : TM} {a : Act} {w : World} {o : Oper}

theorem does_value {K : Value → World → Prop} {V : Value} {w' : World} {r : Result Next} (h : r = .ok (.value V) w') (hk : K V w') : Does P r K := by rw [h]; exact hk

/-- '[]byte("..")' of a row that the text builds: the block is marked -/
theorem mark_run {s e : TypeId} {B off len cap : Nat} {c : Array Value} {el : TypeId} {fz : Nat × Nat} (hs : P.underlying s = some (.slice e)) (he : P.underlying e = some (.int .u8))
    (h : w.heap[B]? = some (.cells c el fz)) :
    (convert s s (.slice (some ⟨B, off, none⟩) len cap)).run P w = .ok (.slice (some ⟨B, off, none⟩) len cap) (w.freeze ⟨B, c.size, none⟩ 1) := by
  unfold convert
  simp only [Sem.run_bind, r_und hs, Result.andThen_ok, beq_self_eq_true, r_und he]
  unfold markStringish
  simp only [Sem.run_bind, run_shape, Result.andThen_ok, World.shape?, h, run_freeze, Sem.run_pure]
theorem freeze_self {B n : Nat} {c : Array Value} {el : TypeId} {fz : Nat × Nat} (h : w.heap[B]? = some (.cells c el fz)) :
    (w.freeze ⟨B, n, none⟩ 1).heap[B]? = some (.cells c el (if fz.1 == fz.2 then (n, n + 1) else (min fz.1 n, max fz.2 (n + 1)))) := by
  simp only [World.freeze, Nat.one_ne_zero, if_false, Array.getElem?_modify]
  simp [h]
theorem freeze_other {B n b : Nat} (h : b ≠ B) : (w.freeze ⟨B, n, none⟩ 1).heap[b]? = w.heap[b]? := by
  simp only [World.freeze, Nat.one_ne_zero, if_false, Array.getElem?_modify]
  have : ¬ B = b := fun e => h e.symm
  simp [this]
theorem freeze_same {x : Addr} {n : Nat} : Same w (w.freeze x n) := by
  unfold World.freeze; split <;> exact ⟨rfl, rfl, rfl⟩
theorem freeze_size {x : Addr} {n : Nat} : (w.freeze x n).heap.size = w.heap.size := by
  unfold World.freeze; split <;> simp

theorem m_gives {s e : TypeId} {m : Mem} {n id off len : Nat} {cap : ACap} {X : Value} {sl : Slot} {cs : List AV} {ext : Bool} (hs : P.underlying s = some (.slice e)) (he : P.underlying e = some (.int .u8))
    (hR : R ρ (.sl id off len cap) X) (hm : m id = some sl) (hmu : sl.mu = true) (ho : sl.o = .row cs ext) (hS : Sim ρ m w) :
    ∃ w', (convert s s X).run P w = .ok X w' ∧ Step ρ m n w ρ m n w' := by
  have key : ∀ (en : Ent) (o l c : Nat), ρ id = some en → X = .slice (some ⟨en.blk, o, none⟩) l c → ∃ w', (convert s s X).run P w = .ok X w' ∧ Step ρ m n w ρ m n w' := by
    intro en o l c hen hX
    obtain ⟨x, hx, hrel⟩ := hS.rel id en sl hen hm
    rw [ho] at hrel
    obtain ⟨c', el, fz, Cs, rfl, h1, h2, h3, h4, h5, h6⟩ := hrel
    refine ⟨_, by rw [hX]; exact mark_run hs he hx, Step.touch hS hen hm hmu (by rw [ho]; simp) freeze_same freeze_size (fun b hb => freeze_other hb) ⟨_, freeze_self hx, ?_⟩⟩
    rw [ho]
    refine ⟨c', el, _, Cs, rfl, h1, h2, h3, h4, h5, ?_⟩
    unfold FzOk at h6 ⊢
    split
    · right; exact Nat.le_refl _
    · rename_i hne
      simp at hne
      right; simp; omega
  cases hR with
  | sl h hl => exact key _ _ _ _ h rfl
  | sl0 h => exact key _ _ _ _ h rfl

theorem compAs3 {x y z : Operand} {a b c : CA} (h : compAs G [x, y, z] = some [a, b, c]) : compA G x = some a ∧ compA G y = some b ∧ compA G z = some c := by
  simp only [compAs] at h
  split at h <;> (try (cases h; done))
  rename_i a' l ha hl
  split at hl <;> (try (cases hl; done))
  rename_i b' l' hb hl'
  split at hl' <;> (try (cases hl'; done))
  rename_i c' l'' hc hl''
  cases hl''; cases hl'; cases hl; cases h
  exact ⟨ha, hb, hc⟩
theorem compAs1 {x : Operand} {a : CA} (h : compAs G [x] = some [a]) : compA G x = some a := by
  simp only [compAs] at h
  split at h <;> (try (cases h; done))
  rename_i a' l ha hl
  cases hl; cases h; exact ha

theorem call_run {c : Call} {f : Operand} {ev : Operand → Value} {o : Oper} {g : FuncId} {F C : List Value} (hop : o.op = .call c) (hf : c.callee = .value f) (hv : ev f = .func (.func g) ⟨F⟩ ⟨C⟩) :
    (execOp ev o).run P w = (callFunc g ⟨F ++ c.args.toList.map ev ++ C⟩).run P w := by
  unfold execOp
  rw [hop]
  simp only [Sem.run_bind, resolve, hf, Deferred.ofValue, hv, Sem.run_pure, Result.andThen_ok, invoke]
  congr 2
  apply Array.toList_inj.1
  simp

theorem tgt_mapped {k : LK} {vs : List AV} {Vs : List Value} {id : Nat} (hid : tgt k vs = some id) (hRs : Rs ρ vs Vs) : ∃ e, ρ id = some e := by
  unfold tgt at hid
  split at hid <;> cases hid
  · cases hRs with | cons hp _ => cases hp with | ptr he => exact ⟨_, he⟩
  · cases hRs with
    | cons hp _ =>
      cases hp with
      | sl he _ => exact ⟨_, he⟩
      | sl0 he => exact ⟨_, he⟩
  · cases hRs with | cons hp _ => cases hp with | map he => exact ⟨_, he⟩
  · cases hRs with | cons hp _ => cases hp with | map he => exact ⟨_, he⟩
theorem execV_pick {call : CallF} {sy : Bool} {s s' : MS} {x y z : CA} {v : AV} (hc : Comp P G o (.pick x y z)) (h : execV call sy (.pick x y z) tm s = some (v, s')) (hok : s'.ok)
    (hG : GOk G ρ) (hT : RT ρ nt tm a) : ∃ V, R ρ v V ∧ ∀ w, (execOp a.eval o).run P w = .ok (.value V) w := by
  cases hc with
  | @pick c0 a0 b0 x0 y0 z0 hop hcs =>
    obtain ⟨e1, e2, e3⟩ := compAs3 hcs
    simp only [execV] at h
    split at h <;> (try (cases h; done))
    rename_i cb hcb
    obtain ⟨b, s1, h1, h2, h3, h4⟩ := dec_some h
    have hR := getA_ok hG hT e1 hcb
    generalize hE : a.eval c0 = E at hR
    cases hR
    have hrun : ∀ w, (execOp a.eval o).run P w = .ok (.value (if cb then a.eval a0 else a.eval b0)) w := fun w => by
      unfold execOp
      rw [hop]
      simp only [Sem.run_bind, hE, asBool, Sem.run_pure, Result.andThen_ok]
    cases b
    · simp only [] at h1
      split at h1 <;> cases h1
      rename_i hv
      have hcf := (h4 hok).2
      refine ⟨_, ?_, hrun⟩
      rw [hcf]; exact getA_ok hG hT e3 hv
    · simp only [] at h1
      split at h1 <;> cases h1
      rename_i hv
      have hcf := (h4 hok).2
      refine ⟨_, ?_, hrun⟩
      rw [hcf]; exact getA_ok hG hT e2 hv

theorem execV_ok {call : CallF} {sy : Bool} {s s' : MS} {ro : RO} {v : AV} (hC : CallOk P G call) (hc : Comp P G o ro) (h : execV call sy ro tm s = some (v, s')) (hok : s'.ok)
    (hG : GOk G ρ) (hT : RT ρ nt tm a) (hS : Sim ρ s.mem.get w) (hF : Free ρ s.n s'.n) (hB : Bd s) :
    Does P ((execOp a.eval o).run P w) fun V w' => ∃ ρ', R ρ' v V ∧ Step ρ s.mem.get s.n w ρ' s'.mem.get s'.n w' := by
  cases hc with
  | p hk hcs =>
    simp only [execV] at h
    split at h <;> (try (cases h; done))
    rename_i vs hvs
    split at h <;> (try (cases h; done))
    rename_i v' q hx
    obtain ⟨s1, h1, h2, h3, h4⟩ := chk_some h
    cases h1
    obtain ⟨_, rfl⟩ := h4 hok
    obtain ⟨V, hV, hr⟩ := compP_gives hk hx (getAs_ok hG hT hcs hvs)
    exact does_value (hr w) ⟨ρ, hV, by rw [h2, h3]; exact Step.refl hS⟩
  | @pick c0 a0 b0 x0 y0 z0 hop hcs =>
    obtain ⟨e1, e2, e3⟩ := compAs3 hcs
    simp only [execV] at h
    split at h <;> (try (cases h; done))
    rename_i cb hcb
    obtain ⟨b, s1, h1, h2, h3, h4⟩ := dec_some h
    have hR := getA_ok hG hT e1 hcb
    generalize hE : a.eval c0 = E at hR
    cases hR
    have hrun : ∀ w, (execOp a.eval o).run P w = .ok (.value (if cb then a.eval a0 else a.eval b0)) w := fun w => by
      unfold execOp
      rw [hop]
      simp only [Sem.run_bind, hE, asBool, Sem.run_pure, Result.andThen_ok]
    cases b
    · simp only [] at h1
      split at h1 <;> cases h1
      rename_i hv
      have hcf := (h4 hok).2
      refine does_value (hrun w) ⟨ρ, ?_, by rw [h2, h3]; exact Step.refl hS⟩
      rw [hcf]; exact getA_ok hG hT e3 hv
    · simp only [] at h1
      split at h1 <;> cases h1
      rename_i hv
      have hcf := (h4 hok).2
      refine does_value (hrun w) ⟨ρ, ?_, by rw [h2, h3]; exact Step.refl hS⟩
      rw [hcf]; exact getA_ok hG hT e2 hv
  | l hk hcs =>
    simp only [execV] at h
    split at h <;> (try (cases h; done))
    rename_i vs hvs
    have hRs := getAs_ok hG hT hcs hvs
    split at h
    · rename_i id hid
      split at h <;> (try (cases h; done))
      rename_i sl hsl
      split at h <;> cases h
      rename_i hx
      have hm : ∀ id', tgt _ vs = some id' → ∃ e x, ρ id' = some e ∧ w.heap[e.blk]? = some x ∧ Rel ρ sl.o e x := fun id' h' => by
        rw [hid] at h'; cases h'
        -- the pointer is mapped
        have : ∃ e, ρ id = some e := by
          generalize List.map a.eval _ = L at hRs
          unfold tgt at hid
          split at hid <;> cases hid
          · cases hRs with | cons hp _ => cases hp with | ptr he => exact ⟨_, he⟩
          · cases hRs with
            | cons hp _ =>
              cases hp with
              | sl he _ => exact ⟨_, he⟩
              | sl0 he => exact ⟨_, he⟩
          · cases hRs with | cons hp _ => cases hp with | map he => exact ⟨_, he⟩
          · cases hRs with | cons hp _ => cases hp with | map he => exact ⟨_, he⟩
        obtain ⟨e, he⟩ := this
        obtain ⟨x, hx, hrel⟩ := hS.rel id e sl he hsl
        exact ⟨e, x, he, hx, hrel⟩
      obtain ⟨V, hV, hr⟩ := compL_gives hk hx hRs hm
      exact does_value hr ⟨ρ, hV, Step.refl hS⟩
    · rename_i hid
      split at h <;> cases h
      rename_i hx
      obtain ⟨V, hV, hr⟩ := compL_gives hk hx hRs (fun id' h' => by rw [hid] at h'; cases h')
      exact does_value hr ⟨ρ, hV, Step.refl hS⟩
  | a hk hcs =>
    simp only [execV] at h
    split at h <;> (try (cases h; done))
    rename_i vs hvs
    split at h <;> (try (cases h; done))
    rename_i ob tot v' q hx
    obtain ⟨s1, h1, h2, h3, h4⟩ := chk_some h
    cases h1
    obtain ⟨_, rfl⟩ := h4 hok
    have hn : ρ s.n = none := hF s.n (Nat.le_refl _) (by simp only [h3]; omega)
    obtain ⟨hd, V, x, hr, hrel, hV⟩ := compA_gives (w := w) hk hx (getAs_ok hG hT hcs hvs) hn
    refine does_value hr ⟨_, hV, ?_⟩
    simp only [h2, h3]
    exact Step.alloc hS hn x ob tot hd hrel _ (fun i => T.get_set _ _ _ _)
  | e hk hcs =>
    simp only [execV] at h
    split at h <;> (try (cases h; done))
    rename_i vs hvs
    split at h <;> (try (cases h; done))
    rename_i v' m' n' q hx
    obtain ⟨s1, h1, h2, h3, h4⟩ := chk_some h
    cases h1
    obtain ⟨_, rfl⟩ := h4 hok
    obtain ⟨ρ', V, w', hr, hV, hst⟩ := compE_gives hk hx (getAs_ok hG hT hcs hvs) hS hF
    rcases hr with hr | ⟨hr, rfl⟩
    · exact does_value hr ⟨ρ', hV, hst⟩
    · rw [hr]; exact ⟨ρ', hV, hst⟩
  | call hop hf hcs =>
    simp only [execV] at h
    split at h <;> (try (cases h; done))
    rename_i f first caps vs hvs
    have hRs := getAs_ok hG hT hcs hvs
    simp only [List.map_cons] at hRs
    obtain ⟨y, r, e, hy, hr⟩ := RsC hRs
    cases e
    generalize hE : a.eval _ = E at hy
    cases hy with
    | fn _ hx hy' =>
      rw [call_run hop hf hE]
      obtain ⟨hcf, hcalls⟩ := hC.ok _ _ _ _ _ h hok ρ _ w hG (Rs.append (Rs.append hx hr) hy') hS hF hB
      rw [hcf]
      exact Calls.mono hcalls fun e w' ⟨V, he, hx⟩ => ⟨V, he, hx⟩
  | m hop hs he hcs =>
    have e1 := compAs1 hcs
    simp only [execV] at h
    split at h <;> (try (cases h; done))
    rename_i id off len cap hv
    split at h <;> cases h
    rename_i cs ext st hm
    have hR := getA_ok hG hT e1 hv
    obtain ⟨w', hr, hst⟩ := m_gives (n := s.n) hs he hR hm rfl rfl hS
    refine does_value (V := a.eval _) (w' := w') ?_ ⟨ρ, hR, hst⟩
    unfold execOp
    rw [hop]
    simp only [Sem.run_bind, hr, Result.andThen_ok, Sem.run_pure]
  | bad => simp only [execV] at h; cases h

/-! ### temporaries -/
theorem RT.put (hT : RT ρ nt tm a) {d : Option Nat} {v : AV} {V : Value} (hd : ∀ t, d = some t → t < nt) (hR : R ρ v V) : RT ρ nt (putT tm d v) (a.put d V) := by
  cases d with
  | none => exact hT
  | some t =>
    have ht := hd t rfl
    refine ⟨by simp [Act.put, hT.size], fun i u hu => ?_⟩
    simp only [putT] at hu
    rw [TM.get_set] at hu
    split at hu
    · rename_i hi; subst hi; cases hu
      refine ⟨ht, ?_⟩
      simp only [Act.put]
      have : i < a.tmps.size := by rw [hT.size]; exact ht
      simp [Array.getD, this]; exact hR
    · rename_i hi
      obtain ⟨h1, h2⟩ := hT.val i u hu
      refine ⟨h1, ?_⟩
      simp only [Act.put, Array.getD_eq_getD_getElem?] at h2 ⊢
      rw [Array.getElem?_setIfInBounds_ne (Ne.symm hi)]
      exact h2

/-- the guard, as the model asks -/
theorem wanted_of {ops : Array Oper} {oper : Oper} {g : Option (Nat × Bool)} {b : Bool} (hg : compG ops oper.guard = some g) (hT : RT ρ nt tm a)
    (hb : GuardB tm g b) : Region.wanted oper (yielded ops a.tmps) = b := by
  unfold GuardB at hb
  unfold compG at hg
  unfold Region.wanted
  split at hg
  · rename_i h0
    cases hg
    simp only [] at hb
    rw [h0, hb]
  · rename_i j wnt h0
    split at hg <;> (try (cases hg; done))
    rename_i oj hoj
    split at hg <;> cases hg
    rename_i t ht
    rw [h0]
    simp only [] at hb ⊢
    have hy : ∀ {c : AV}, tm.get t = some c → ∃ C, a.tmps[t]? = some C ∧ R ρ c C := fun {c} hc => by
      obtain ⟨h1, h2⟩ := hT.val t c hc
      have : t < a.tmps.size := by rw [hT.size]; exact h1
      refine ⟨a.tmps[t], by simp [this], ?_⟩
      simpa [Array.getD, this] using h2
    rcases hb with ⟨c, hc, rfl⟩ | ⟨rfl, l, hl⟩
    · obtain ⟨C, hC, hR⟩ := hy hc
      cases hR
      simp [yielded, hoj, ht, hC]
    · obtain ⟨C, hC, hR⟩ := hy hl
      cases hR
      simp [yielded, hoj, ht, hC]

/-- one operation of a region, with its guard -/
theorem execG_ok {ops : Array Oper} {call : CallF} {sy : Bool} {s s' : MS} {ro : ROp} {v : AV} (hC : CallOk P G call) (hg : compG ops o.guard = some ro.g) (hc : Comp P G o ro.op)
    (h : execG call sy ro tm s = some (v, s')) (hok : s'.ok) (hG : GOk G ρ) (hT : RT ρ nt tm a) (hS : Sim ρ s.mem.get w) (hF : Free ρ s.n s'.n) (hB : Bd s) {i : Nat} (hi : ops[i]? = some o)
    {Q : Exit → Act → World → Prop} {K : Act → World → Prop}
    (hk : ∀ V w' ρ', R ρ' v V → Step ρ s.mem.get s.n w ρ' s'.mem.get s'.n w' → K (a.put o.dst V) w') : wpOp P ops Q i K a w := by
  unfold execG at h
  obtain ⟨b, s1, h1, h2, h3, h4⟩ := want_some h
  have hev : s1.ok := by
    cases b
    · cases h1; exact hok
    · exact (execV_evo hC h1).ok hok
  have hw := wanted_of hg hT (h4 hev).2
  unfold wpOp
  simp only [hi]
  cases b
  · cases h1
    rw [if_neg (by rw [hw]; simp)]
    refine hk undef w ρ (.tup .nil) ?_
    rw [h2, h3]; exact Step.refl hS
  · rw [if_pos hw]
    left
    have hd := execV_ok (w := w) hC hc h1 hok hG hT (by rw [h2]; exact hS) (by rw [h3]; exact hF) (fun id hid => by rw [h2]; exact hB id (by rw [← h3]; exact hid))
    exact Does.upon hd fun V w' ⟨ρ', hR, hst⟩ => hk V w' ρ' hR (by rw [← h2, ← h3]; exact hst)

/-- the compiled operations of a region, read back -/
structure COps (P : Program) (G : Nat → Option Nat) (nt : Nat) (dr : Bool) (ops : Array Oper) (l : List ROp) : Prop where
  len : l.length = ops.size
  at_ : ∀ (i : Nat) (o : Oper) (r : ROp), ops[i]? = some o → l[i]? = some r → r.dst = o.dst ∧ (∀ t, o.dst = some t → t < nt) ∧ compG ops o.guard = some r.g ∧ Comp P G o r.op ∧
    (dr = true → ∃ pms : T Nat, (∀ i', pms.get i' = ((l.take i)[i']?).map (·.pm)) ∧ maskOf pms o.after.toList = some r.pm)

theorem compOps_inv (dr : Bool) (all : Array Oper) : ∀ {os : List Oper} {pms : T Nat} {k : Nat} {l : List ROp}, compOps P G nt dr all os pms k = some l → ∀ (pre : List ROp), pre.length = k → (dr = true → ∀ i', pms.get i' = (pre[i']?).map (·.pm)) →
    l.length = os.length ∧ ∀ (i : Nat) (o : Oper) (r : ROp), os[i]? = some o → l[i]? = some r → r.dst = o.dst ∧ (∀ t, o.dst = some t → t < nt) ∧ compG all o.guard = some r.g ∧ Comp P G o r.op ∧
      (dr = true → ∃ pms : T Nat, (∀ i', pms.get i' = ((pre ++ l.take i)[i']?).map (·.pm)) ∧ maskOf pms o.after.toList = some r.pm)
  | [], pms, k, l, h, pre, hk, hp => by simp only [compOps, Option.some.injEq] at h; subst h; simp
  | o :: os, pms, k, l, h, pre, hk, hp => by
    simp only [compOps] at h
    split at h <;> (try (cases h; done))
    rename_i m hm
    rw [fN_eq] at h
    split at h <;> (try (cases h; done))
    rename_i g hg hd
    rw [T.seq_eq] at h
    split at h <;> cases h
    rename_i l' hl'
    obtain ⟨h1, h2⟩ := compOps_inv dr all hl' (pre ++ [⟨o.dst, g, compRO P G o, m⟩]) (by simp [hk]) (fun hdr i' => by
      subst hdr
      simp only []
      rw [T.get_set]
      have hp' := hp rfl i'
      by_cases hi : i' = k
      · subst hi
        rw [if_pos rfl, List.getElem?_append_right (by omega), hk]
        simp
      · rw [if_neg hi, hp']
        rcases Nat.lt_or_ge i' k with h | h
        · rw [List.getElem?_append_left (by omega)]
        · rw [List.getElem?_eq_none (by omega), List.getElem?_eq_none (by simp; omega)])
    refine ⟨by simp [h1], fun i o' r ho hr => ?_⟩
    cases i with
    | zero =>
      simp only [List.getElem?_cons_zero, Option.some.injEq] at ho hr
      subst ho; subst hr
      refine ⟨rfl, fun t ht => ?_, hg, compRO_inv P G o, fun hdr => ⟨pms, by simpa using hp hdr, ?_⟩⟩
      · simp only [ht] at hd
        exact Nat.le_of_ble_eq_true hd
      · subst hdr; exact hm
    | succ i =>
      simp only [List.getElem?_cons_succ] at ho hr
      obtain ⟨a1, a2, a3, a4, a5⟩ := h2 i o' r ho hr
      refine ⟨a1, a2, a3, a4, fun hdr => ?_⟩
      obtain ⟨pms', b1, b2⟩ := a5 hdr
      refine ⟨pms', fun i' => ?_, b2⟩
      rw [b1]; simp
theorem compOps_ok {dr : Bool} {ops : Array Oper} {l : List ROp} (h : compOps P G nt dr ops ops.toList .e 0 = some l) : COps P G nt dr ops l := by
  obtain ⟨h1, h2⟩ := compOps_inv dr ops h [] rfl (fun _ i' => by simp [T.get])
  refine ⟨by simpa using h1, fun i o r ho hr => ?_⟩
  have := h2 i o r (by simpa using ho) hr
  simpa using this

/-- the post of a region or of code: the evaluation's state, beside a step -/
def At (G : Nat → Option Nat) (nt : Nat) (ρ : Mp) (s : MS) (w : World) (ds : List Deferred) (c : CS) : Act → World → Prop := fun a' w' =>
  a'.defers = ds ∧ ∃ ρ', RT ρ' nt c.tm a' ∧ Step ρ s.mem.get s.n w ρ' c.ms.mem.get c.ms.n w'

theorem runSeq_evo {call : CallF} {sy : Bool} (hC : CallOk P G call) : ∀ {l : List ROp} {tm : TM} {s : MS} {c : CS}, runSeq call sy l tm s = some c → EvoS s c.ms
  | [], tm, s, c, h => by cases h; exact EvoS.refl _
  | o :: r, tm, s, c, h => by
    simp only [runSeq] at h
    split at h <;> (try (cases h; done))
    rename_i tm' s' h1
    obtain ⟨v, hv, _⟩ := exec1_some h1
    exact (execG_evo hC hv).trans (runSeq_evo hC h)
theorem Act.put_defers' (a : Act) (d : Option Tmp) (v : Value) : (a.put d v).defers = a.defers := by cases d <;> rfl

/-- A REGION IN THE ORDER OF ITS TEXT. -/
theorem runSeq_ok {ops : Array Oper} {l : List ROp} {call : CallF} {sy : Bool} {Q : Exit → Act → World → Prop} (hC : CallOk P G call) {dr : Bool} (hl : COps P G nt dr ops l) : ∀ (k : Nat) (r : List ROp) (is : List Nat) (tm : TM) (s : MS) (c : CS) (ρ : Mp) (a : Act) (w : World),
    r = l.drop k → is = (List.range ops.size).drop k → runSeq call sy r tm s = some c → c.ms.ok → GOk G ρ → RT ρ nt tm a → Sim ρ s.mem.get w → Free ρ s.n c.ms.n → Bd s →
    (∀ a' w', At G nt ρ s w a.defers c a' w' → Q .normal a' w') → wpOps P ops Q is a w := by
  intro k r
  induction r generalizing k with
  | nil =>
    intro is tm s c ρ a w hr his h hok hG hT hS hF hB hQ
    have hk : l.length ≤ k := by
      rcases Nat.lt_or_ge k l.length with h | h
      · have := congrArg List.length hr; simp at this; omega
      · exact h
    rw [hl.len] at hk
    have : is = [] := by rw [his]; apply List.drop_eq_nil_of_le; simpa using hk
    subst this
    cases h
    exact hQ a w ⟨rfl, ρ, hT, Step.refl hS⟩
  | cons o r ih =>
    intro is tm s c ρ a w hr his h hok hG hT hS hF hB hQ
    have hk : k < l.length := by
      rcases Nat.lt_or_ge k l.length with h | h
      · exact h
      · rw [List.drop_eq_nil_of_le h] at hr; cases hr
    have hko : k < ops.size := by rw [← hl.len]; exact hk
    have hlk : l[k]? = some o := by
      have := congrArg (·[0]?) hr
      simpa using this.symm
    have hrest : r = l.drop (k + 1) := by
      have := congrArg List.tail hr
      simpa using this
    have hisc : is = k :: (List.range ops.size).drop (k + 1) := by
      rw [his, List.drop_eq_getElem_cons (by simpa using hko)]; simp
    subst hisc
    simp only [runSeq] at h
    split at h <;> (try (cases h; done))
    rename_i tm' s' h1
    obtain ⟨v, hv, htm⟩ := exec1_some h1
    simp only at htm hv
    have hok' : s'.ok := (runSeq_evo hC h).ok hok
    obtain ⟨oper, hop⟩ : ∃ oper, ops[k]? = some oper := ⟨ops[k], by simp [hko]⟩
    obtain ⟨hdst, hdl, hg, hc, _⟩ := hl.at_ k oper o hop hlk
    have hle := (runSeq_evo hC h).evo.le
    have hle0 := (execG_evo hC hv).evo.le
    rw [wpOps_cons]
    refine execG_ok (w := w) hC hg hc hv hok' hG hT hS (fun id h1 h2 => hF id h1 (by omega)) hB hop fun V w' ρ' hR hst => ?_
    refine ih (k + 1) _ tm' s' c ρ' (a.put oper.dst V) w' hrest rfl h hok (hG.ext hst.ext) ?_ hst.sim ?_ ((execG_evo hC hv).bd hB) fun a' w'' hAt => hQ a' w'' ?_
    · rw [htm, hdst]; exact (hT.ext hst.ext).put hdl hR
    · intro id h1 h2
      cases hx : ρ' id with
      | none => rfl
      | some e =>
        rcases hst.new id e hx with hy | ⟨_, hb⟩
        · rw [hF id (by omega) h2] at hy; cases hy
        · omega
    · obtain ⟨hd, ρ'', hT', hst'⟩ := hAt
      exact ⟨by rw [hd, Act.put_defers'], ρ'', hT', hst.trans hst'⟩
end
end Ev
end Go.Proofs.YtakgohocimlagaaGreat
