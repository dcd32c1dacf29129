/-
  An evaluator over plain data (18): a region that draws its order, as a whole; code; calls; THE THEOREM: what the evaluation gives is what the model does. Of no program. No condition.
-/
import Derived.Test.YtakgohocimlagaaGreatEvQ
import Derived.LoopN
namespace Go.Proofs.YtakgohocimlagaaGreat
namespace Ev
variable [E : Inhabited EnvT]
set_option linter.unusedVariables false
set_option linter.unusedSectionVars false
set_option linter.unusedSimpArgs false
open Go.RowKit Go.IntWalk

section
variable {P : Program} {G : Nat → Option Nat} {nt : Nat} {ops : Array Oper} {l : List ROp} {call : CallF} {sy : Bool} {sn : Nat → CS} {vv : Nat → AV}
variable {ρ0 : Mp} {w0 : World} {ds : List Deferred} {S : Nat → Prop} {q : Nat} {ρ : Mp} {M : Mem} {a : Act} {w : World}

theorem Inv.simq (D : DR P G nt ops l call sy sn vv) (I : Inv nt l sn vv ρ0 w0 ds S q ρ M a w) : Sim ρ (sn q).ms.mem.get w := by
  have hl : ∀ id, live (sn q).ms.mem.get id → live M id := fun id h s hs => by
    rcases I.down id s hs with h' | ⟨k, g1, g2, g3, g4, g5, g6⟩
    · exact h s h'
    · obtain ⟨ob, hob, hmem, _⟩ := D.made g4
      rw [hmem, T.get_set, if_pos g5] at g6
      cases g6; exact hob
  exact ⟨fun id e s he hs => I.sim.rel id e s he (I.up id s hs), fun id id' e e' h1 h2 h3 h4 h5 => I.sim.inj id id' e e' h1 h2 h3 (hl id h4) (hl id' h5), I.sim.lt, I.sim.old, I.sim.sz, fun id e s h1 h2 h3 h4 => I.sim.hi id e s h1 (I.up id s h2) h3 h4⟩

theorem wpOp_value {Q : Exit → Act → World → Prop} {K : Act → World → Prop} {j : Nat} {oper : Oper} {V : Value} {w' : World} (hop : ops[j]? = some oper) (hw : Region.wanted oper (yielded ops a.tmps) = true)
    (hr : (execOp a.eval oper).run P w = .ok (.value V) w') (hK : K (a.put oper.dst V) w') : wpOp P ops Q j K a w := by
  unfold wpOp
  simp only [hop]
  rw [if_pos hw]
  left
  unfold Oper.wp
  rw [hr]
  exact hK

theorem Inv.step (D : DR P G nt ops l call sy sn vv) (hG : GOk G ρ0) (I : Inv nt l sn vv ρ0 w0 ds S q ρ M a w) {j : Nat} {o : ROp} {oper : Oper} (N : Now l S j o) (hop : ops[j]? = some oper)
    {Q : Exit → Act → World → Prop} {K : Act → World → Prop} (hK : ∀ q' ρ' M' a' w', Inv nt l sn vv ρ0 w0 ds (fun i => S i ∨ i = j) q' ρ' M' a' w' → K a' w') : wpOp P ops Q j K a w := by
  have hjl := N.lt
  obtain ⟨hdst, hdl, hg, hc, _⟩ := D.hl.at_ j oper o hop N.at_
  have hdl' : ∀ t, o.dst = some t → t < nt := fun t ht => hdl t (by rw [← hdst]; exact ht)
  have hexec := (D.tr.at_ j o N.at_).1
  have hok : (sn (j + 1)).ms.ok := D.okk hjl
  cases he : isE o.op with
  | true =>
    -- on to its place
    have hqj : q ≤ j := by
      rcases Nat.lt_or_ge j q with h | h
      · exact absurd ((I.eS j o N.at_ he).2 h) N.not
      · exact h
    obtain ⟨M1, I1⟩ := Inv.advTo D (j - q) I (by omega) (fun i x h1 h2 h3 => by
      cases hx : isE x.op with
      | false => rfl
      | true =>
        exfalso
        have hij : i < j := by omega
        rcases D.pair hij h3 N.at_ with h | ⟨h, _⟩
        · have := (I.eS i x h3 hx).1 (N.pre i h); omega
        · exact h ⟨hx, he⟩)
    have e : q + (j - q) = j := by omega
    rw [e] at I1
    have hT := I1.reads D N
    have hexec' : execG call sy o (someOf (sn j).tm (readsO o)) (sn j).ms = some (vv j, (sn (j + 1)).ms) := by
      rw [execG_congr (fun t ht => someOf_in ht)]; exact hexec
    refine execG_ok D.hC hg hc hexec' hok (hG.ext I1.ext) hT (I1.simq D) (I1.free j hjl N.not) (D.bdk (Nat.le_of_lt hjl)) hop fun V w' ρ' hR hst => ?_
    obtain ⟨M', I'⟩ := I1.wr D N he hst hR hdl'
    rw [hdst] at I'
    exact hK _ _ _ _ _ I'
  | false =>
    have hT := I.reads D N
    have hGρ := hG.ext I.ext
    have hexec' : execG call sy o (someOf (sn j).tm (readsO o)) (sn j).ms = some (vv j, (sn (j + 1)).ms) := by
      rw [execG_congr (fun t ht => someOf_in ht)]; exact hexec
    rcases execG_cases hexec' with ⟨hv, hm, hn, hgb⟩ | ⟨s1, hx, hm, hn, hgb⟩
    · have hw := wanted_of hg hT (hgb hok)
      unfold wpOp
      simp only [hop]
      rw [if_neg (by rw [hw]; simp)]
      have hnm : ¬ Made l sn j := fun h => by have := h.2; omega
      have I' := I.same D N he hnm (n := 0) (Step.refl I.sim) (V := undef) (by rw [hv]; exact .tup .nil) hdl'
      rw [hdst] at I'
      exact hK _ _ _ _ _ I'
    · have hev := execV_evo D.hC hx
      have hok1 : s1.ok := hev.ok hok
      have hw := wanted_of hg hT (hgb hok1)
      cases hop' : o.op with
      | e k xs => rw [hop'] at he; simp [isE] at he
      | call xs => rw [hop'] at he; simp [isE] at he
      | bad => rw [hop'] at hx; simp only [execV] at hx; cases hx
      | p k xs =>
        rw [hop'] at hc hx
        have hnm : ¬ Made l sn j := fun ⟨⟨o', ho', ha⟩, _⟩ => by rw [N.at_] at ho'; cases ho'; rw [hop'] at ha; simp [isA] at ha
        cases hc with
        | p hk hcs =>
          simp only [execV] at hx
          split at hx <;> (try (cases hx; done))
          rename_i vs hvs
          split at hx <;> (try (cases hx; done))
          rename_i v' qq hx'
          obtain ⟨s2, h1, h2, h3, h4⟩ := chk_some hx
          simp only [Option.some.injEq, Prod.mk.injEq] at h1
          obtain ⟨hv, hs2⟩ := h1
          obtain ⟨_, rfl⟩ := h4 (by rw [hs2]; exact hok)
          obtain ⟨V, hV, hr⟩ := compP_gives hk hx' (getAs_ok hGρ hT hcs hvs)
          refine wpOp_value hop hw (hr w) ?_
          have I' := I.same D N he hnm (n := 0) (Step.refl I.sim) (V := V) (by rw [← hv]; exact hV) hdl'
          rw [hdst] at I'
          exact hK _ _ _ _ _ I'
      | pick x y z =>
        rw [hop'] at hc hx
        have hnm : ¬ Made l sn j := fun ⟨⟨o', ho', ha⟩, _⟩ => by rw [N.at_] at ho'; cases ho'; rw [hop'] at ha; simp [isA] at ha
        have hd := execV_pick (P := P) (a := a) hc hx hok hGρ hT
        obtain ⟨V, hV, hr⟩ := hd
        refine wpOp_value hop hw (hr w) ?_
        have I' := I.same D N he hnm (n := 0) (Step.refl I.sim) (V := V) hV hdl'
        rw [hdst] at I'
        exact hK _ _ _ _ _ I'
      | l k xs =>
        rw [hop'] at hc hx
        have hnm : ¬ Made l sn j := fun ⟨⟨o', ho', ha⟩, _⟩ => by rw [N.at_] at ho'; cases ho'; rw [hop'] at ha; simp [isA] at ha
        cases hc with
        | l hk hcs =>
          simp only [execV] at hx
          split at hx <;> (try (cases hx; done))
          rename_i vs hvs
          have hRs := getAs_ok hGρ hT hcs hvs
          have hvs' : getAs (sn j).tm xs = some vs := by
            rw [← hvs]; symm
            exact getAs_congr fun t ht => someOf_in (by simp [readsO, hop', ht])
          split at hx
          · rename_i id hid
            split at hx <;> (try (cases hx; done))
            rename_i sl hsl
            split at hx <;> (try (cases hx; done))
            rename_i v' hx'
            simp only [Option.some.injEq, Prod.mk.injEq] at hx
            obtain ⟨hv, _⟩ := hx
            have hMs : M id = some sl := I.stood D N he (by rw [hop']; rfl) (by unfold readOf; rw [hop']; simp only [hvs', hid]) (by rw [← hm]; exact hsl)
            have hmm : ∀ id', tgt k vs = some id' → ∃ e x, ρ id' = some e ∧ w.heap[e.blk]? = some x ∧ Rel ρ sl.o e x := fun id' h' => by
              rw [hid] at h'; cases h'
              obtain ⟨e, he'⟩ := tgt_mapped hid hRs
              obtain ⟨x, hxx, hrel⟩ := I.sim.rel id e sl he' hMs
              exact ⟨e, x, he', hxx, hrel⟩
            obtain ⟨V, hV, hr⟩ := compL_gives hk hx' hRs hmm
            refine wpOp_value hop hw hr ?_
            have I' := I.same D N he hnm (n := 0) (Step.refl I.sim) (V := V) (by rw [← hv]; exact hV) hdl'
            rw [hdst] at I'
            exact hK _ _ _ _ _ I'
          · rename_i hid
            split at hx <;> (try (cases hx; done))
            rename_i v' hx'
            simp only [Option.some.injEq, Prod.mk.injEq] at hx
            obtain ⟨hv, _⟩ := hx
            obtain ⟨V, hV, hr⟩ := compL_gives (w := w) hk hx' hRs (fun id' h' => by rw [hid] at h'; cases h')
            refine wpOp_value hop hw hr ?_
            have I' := I.same D N he hnm (n := 0) (Step.refl I.sim) (V := V) (by rw [← hv]; exact hV) hdl'
            rw [hdst] at I'
            exact hK _ _ _ _ _ I'
      | a k xs =>
        rw [hop'] at hc hx
        cases hc with
        | a hk hcs =>
          simp only [execV] at hx
          split at hx <;> (try (cases hx; done))
          rename_i vs hvs
          split at hx <;> (try (cases hx; done))
          rename_i ob tot v' qq hx'
          obtain ⟨s2, h1, h2, h3, h4⟩ := chk_some hx
          simp only [Option.some.injEq, Prod.mk.injEq] at h1
          obtain ⟨hv, hs2⟩ := h1
          have hokk : s2.ok := by have := hok; rw [← hs2] at this; exact this
          obtain ⟨_, rfl⟩ := h4 hokk
          rw [hn] at hx'
          have hmem : (sn (j + 1)).ms.mem = (sn j).ms.mem.set (sn j).ms.n ⟨ob, (sn j).ms.n, true⟩ := by rw [← hs2]; simp only [h2, h3, hm, hn]
          have hn1 : (sn (j + 1)).ms.n = (sn j).ms.n + 1 := by rw [← hs2]; simp only [h3, hn]
          have hfree : ρ (sn j).ms.n = none := I.free j hjl N.not _ (Nat.le_refl _) (by omega)
          obtain ⟨hd, V, x, hr, hrel, hV⟩ := compA_gives (w := w) hk hx' (getAs_ok hGρ hT hcs hvs) hfree
          refine wpOp_value hop hw hr ?_
          obtain ⟨ρ', M', I'⟩ := I.makes D N he ⟨⟨o, N.at_, by rw [hop']; rfl⟩, by omega⟩ hd hmem hn1 hrel (by rw [← hv]; exact hV) hdl'
          rw [hdst] at I'
          exact hK _ _ _ _ _ I'
      | m x =>
        rw [hop'] at hc hx
        have hnm : ¬ Made l sn j := fun ⟨⟨o', ho', ha⟩, _⟩ => by rw [N.at_] at ho'; cases ho'; rw [hop'] at ha; simp [isA] at ha
        cases hc with
        | @m s0 x1 e0 e9 c0 hopp hs he' hcs =>
          have e1 := compAs1 hcs
          simp only [execV] at hx
          split at hx <;> (try (cases hx; done))
          rename_i id off len cap hv
          split at hx <;> (try (cases hx; done))
          rename_i cs ext st hmm
          simp only [Option.some.injEq, Prod.mk.injEq] at hx
          obtain ⟨hvv, _⟩ := hx
          have hv' : getA (sn j).tm x = some (.sl id off len cap) := by
            rw [← hv]; symm
            exact getA_congr fun t ht => someOf_in (by simp [readsO, hop', ht])
          have hMs : M id = some ⟨.row cs ext, st, true⟩ := I.stood D N he (by rw [hop']; rfl) (by unfold readOf; rw [hop']; simp only [hv']) (by rw [← hm]; exact hmm)
          have hR := getA_ok hGρ hT e1 hv
          obtain ⟨w', hr, hst⟩ := m_gives (n := 0) hs he' hR hMs rfl rfl I.sim
          refine wpOp_value (V := a.eval x1) (w' := w') hop hw ?_ ?_
          · unfold execOp
            rw [hopp]
            simp only [Sem.run_bind, hr, Result.andThen_ok, Sem.run_pure]
          · have I' := I.same D N he hnm hst (V := a.eval x1) (by rw [← hvv]; exact hR) hdl'
            rw [hdst] at I'
            exact hK _ _ _ _ _ I'

theorem filter_lt {α : Type} {p p' : α → Bool} : ∀ {l : List α}, (∀ x ∈ l, p' x = true → p x = true) → ∀ {j : α}, j ∈ l → p j = true → p' j = false → (l.filter p').length < (l.filter p).length
  | [], _, j, h, _, _ => by cases h
  | x :: r, h, j, hj, h1, h2 => by
    have hle : ∀ {l : List α}, (∀ x ∈ l, p' x = true → p x = true) → (l.filter p').length ≤ (l.filter p).length := by
      intro l
      induction l with
      | nil => intro _; exact Nat.le_refl _
      | cons y r ih =>
        intro hh
        have := ih fun z hz => hh z (List.mem_cons_of_mem _ hz)
        simp only [List.filter_cons]
        cases hy : p' y with
        | true => rw [hh y (by simp) hy]; simp; omega
        | false => cases p y <;> simp <;> omega
    rcases List.mem_cons.1 hj with rfl | hj
    · have := hle (l := r) fun z hz => h z (List.mem_cons_of_mem _ hz)
      simp only [List.filter_cons, h1, h2]
      simp; omega
    · have := filter_lt (l := r) (fun z hz => h z (List.mem_cons_of_mem _ hz)) hj h1 h2
      simp only [List.filter_cons]
      cases hx : p' x with
      | true => rw [h x (by simp) hx]; simp; omega
      | false => cases p x <;> simp <;> omega

theorem ready_now (D : DR P G nt ops l call sy sn vv) {listed : Array Bool} (hs : listed.size = l.length) (hcl : ∀ (j : Nat) (o : ROp), l[j]? = some o → listed.getD j false = true → ∀ i, Nat.testBit o.pm i = true → listed.getD i false = true)
    {j : Nat} (hj : j ∈ Region.ready .any ops listed) : ∃ o oper, ops[j]? = some oper ∧ Now l (fun i => listed.getD i false = true) j o := by
  unfold Region.ready at hj
  simp only [List.mem_filter, List.mem_range, Bool.and_eq_true, Bool.not_eq_true'] at hj
  obtain ⟨h1, h2, h3⟩ := hj
  have hjl : j < l.length := by rw [D.hl.len]; exact h1
  obtain ⟨o, oper, ho, hop⟩ := D.get hjl
  refine ⟨o, oper, hop, ho, ?_, fun i hi => ?_⟩
  · have : j < listed.size := by omega
    simp [Array.getD, this] at h2 ⊢; exact h2
  · obtain ⟨e, he, hb, hlt, hor⟩ := (D.mask ho hop).2 i hi
    rw [hop] at h3
    simp only [Option.map_some, Option.getD_some] at h3
    have hall := (Array.all_eq_true'.1 h3) e (by simpa using he)
    have hbb : Region.binds .any e = true := hb
    rw [hbb] at hall
    have hel : listed.getD e.on false = true := by simpa using hall
    rcases hor with rfl | ⟨o', ho', hb'⟩
    · exact hel
    · exact hcl e.on o' ho' hel i hb'
theorem ready_nil (D : DR P G nt ops l call sy sn vv) {listed : Array Bool} (hs : listed.size = l.length) (h : Region.ready .any ops listed = []) : ∀ j, j < l.length → listed.getD j false = true := by
  intro j
  induction j using Nat.strongRecOn with
  | _ j ih =>
    intro hj
    cases hl : listed.getD j false with
    | true => rfl
    | false =>
      exfalso
      obtain ⟨o, oper, ho, hop⟩ := D.get hj
      have : j ∈ Region.ready .any ops listed := by
        unfold Region.ready
        simp only [List.mem_filter, List.mem_range, Bool.and_eq_true, Bool.not_eq_true']
        refine ⟨by rw [← D.hl.len]; exact hj, ?_, ?_⟩
        · have : j < listed.size := by omega
          simp [Array.getD, this] at hl ⊢; exact hl
        · rw [hop]
          simp only [Option.map_some, Option.getD_some]
          rw [Array.all_eq_true']
          intro e he
          cases hb : Region.binds .any e with
          | false => rfl
          | true =>
            have := ((D.mask ho hop).1 e (by simpa using he) hb).1
            rw [ih e.on this (by omega)]; rfl
      rw [h] at this; cases this

theorem Inv.all (D : DR P G nt ops l call sy sn vv) {fuel : Nat} {Q : Exit → Act → World → Prop} (hG : GOk G ρ0)
    (hQ : ∀ a' w', (∃ S q ρ M, (∀ j, j < l.length → S j) ∧ Inv nt l sn vv ρ0 w0 ds S q ρ M a' w') → Q .normal a' w') : ∀ (listed : Array Bool) (q : Nat) (ρ : Mp) (M : Mem) (a : Act) (w : World),
    listed.size = l.length → ((List.range l.length).filter (fun i => !listed.getD i false)).length ≤ fuel → Inv nt l sn vv ρ0 w0 ds (fun i => listed.getD i false = true) q ρ M a w → wpAny P .any ops Q fuel listed a w := by
  have done : ∀ (listed : Array Bool) (q : Nat) (ρ : Mp) (M : Mem) (a : Act) (w : World), Inv nt l sn vv ρ0 w0 ds (fun i => listed.getD i false = true) q ρ M a w → (∀ j, j < l.length → listed.getD j false = true) → Q .normal a w :=
    fun listed q ρ M a w I h => hQ a w ⟨_, q, ρ, M, h, I⟩
  induction fuel with
  | zero =>
    intro listed q ρ M a w hs hf I
    have hall : ∀ j, j < l.length → listed.getD j false = true := fun j hj => by
      have h0 : (List.range l.length).filter (fun i => !listed.getD i false) = [] := List.length_eq_zero_iff.1 (by omega)
      have := (List.filter_eq_nil_iff.1 h0) j (by simpa using hj)
      simpa using this
    refine ⟨?_, done listed q ρ M a w I hall⟩
    cases hr : Region.ready .any ops listed with
    | nil => rfl
    | cons j r =>
      exfalso
      obtain ⟨o, oper, hop, N⟩ := ready_now D hs I.closed (j := j) (by rw [hr]; simp)
      exact N.not (hall j N.lt)
  | succ fuel ih =>
    intro listed q ρ M a w hs hf I
    refine ⟨fun hr => done listed q ρ M a w I (ready_nil D hs hr), fun j hj => ?_⟩
    obtain ⟨o, oper, hop, N⟩ := ready_now D hs I.closed hj
    refine I.step D hG N hop fun q' ρ' M' a' w' I' => ?_
    have hjs : j < listed.size := by rw [hs]; exact N.lt
    have hset : ∀ i, (listed.setIfInBounds j true).getD i false = true ↔ (listed.getD i false = true ∨ i = j) := fun i => by
      by_cases hi : i = j
      · subst hi; simp [Array.getD, hjs]
      · simp only [Array.getD_eq_getD_getElem?, Array.getElem?_setIfInBounds_ne (Ne.symm hi)]
        simp [hi]
    refine ih (listed.setIfInBounds j true) q' ρ' M' a' w' (by simpa using hs) ?_ ?_
    · have := filter_lt (l := List.range l.length) (p := fun i => !listed.getD i false) (p' := fun i => !(listed.setIfInBounds j true).getD i false) (fun x _ hx => by
          have hx' : ¬ ((listed.setIfInBounds j true).getD x false = true) := by simpa using hx
          rw [hset] at hx'
          have : ¬ listed.getD x false = true := fun h => hx' (.inl h)
          simpa using this) (j := j) (by simpa using N.lt) (by have := N.not; simpa using this) (by
          have := (hset j).2 (.inr rfl)
          rw [this]; rfl)
      omega
    · have : (fun i => (listed.setIfInBounds j true).getD i false = true) = (fun i => listed.getD i false = true ∨ i = j) := funext fun i => propext (hset i)
      rw [this]; exact I'

/-- A REGION THAT DRAWS ITS ORDER. -/
theorem runDraw_ok {id : Nat} {tm : TM} {s : MS} {c : CS} {Q : Exit → Act → World → Prop} (hC : CallOk P G call) (hl : COps P G nt true ops l) (hp : pairsAll 0 l = true) (hmix : P.follows .mixedOrders = true)
    (h : runDraw call sy l tm s = some c) (hok : c.ms.ok) (hG : GOk G ρ) (hT : RT ρ nt tm a) (hS : Sim ρ s.mem.get w) (hF : Free ρ s.n c.ms.n) (hB : Bd s)
    (hQ : ∀ a' w', At G nt ρ s w a.defers c a' w' → Q .normal a' w') : (Code.region id ops true).wp P Q a w := by
  unfold runDraw at h
  split at h <;> (try (cases h; done))
  rename_i ss f hrun
  split at h <;> cases h
  rename_i hst
  obtain ⟨sn, vv, hTr, h0, hN, hss⟩ := trace_of hrun
  obtain ⟨i1, i2, i3⟩ := runTr_inv hrun
  have hsn : ∀ k, k ≤ l.length → (ss ++ [c])[k]? = some (sn k) := fun k hk => by
    rcases Nat.lt_or_ge k l.length with h | h
    · rw [List.getElem?_append_left (by omega)]; exact hss k h
    · have : k = l.length := by omega
      subst this
      rw [hN, ← i1]; simp
  have D : DR P G nt ops l call sy sn vv := {
    hC := hC, hl := hl, tr := hTr, pairs := hp
    stay := fun j o r ho hr x ox hx hea hb1 hb2 hne sl hsl => by
      have hjl : j < l.length := by
        rcases Nat.lt_or_ge j l.length with h | h
        · exact h
        · rw [List.getElem?_eq_none h] at ho; cases ho
      have hxl : x < l.length := by
        rcases Nat.lt_or_ge x l.length with h | h
        · exact h
        · rw [List.getElem?_eq_none h] at hx; cases hx
      have h1 := staysAll_at hst j o (sn j) r ho (hss j hjl) hr
      rw [Nat.zero_add] at h1
      have hmem := confl_mem (j := j) (pmj := o.pm) (b := 0) x ox hx hea (by rw [Nat.zero_add]; exact hb1) hb2 (by rw [Nat.zero_add]; exact hne)
      rw [Nat.zero_add] at hmem
      exact h1 x hmem (sn x) (sn (x + 1)) (hsn x (by omega)) (hsn (x + 1) (by omega)) sl hsl
    ok := by rw [hN]; exact hok
    bd := by rw [h0]; exact hB }
  have hm0 : (sn 0).ms = s := by rw [h0]
  have ht0 : (sn 0).tm = tm := by rw [h0]
  have hmN : (sn l.length).ms = c.ms := by rw [hN]
  have htN : (sn l.length).tm = c.tm := by rw [hN]
  have hlist : ∀ i, ¬ ((Array.replicate ops.size false).getD i false = true) := fun i => by
    simp [Array.getD]
  have I0 : Inv nt l sn vv ρ w a.defers (fun i => (Array.replicate ops.size false).getD i false = true) 0 ρ s.mem.get a w.drew := {
    q_le := Nat.zero_le _
    eS := fun i o _ _ => ⟨fun h => absurd h (hlist i), fun h => by omega⟩
    sim := Sim.of_heap (w := w) (w' := w.drew) rfl hS
    up := fun id s' h => by rw [hm0] at h; exact h
    down := fun id s' h => .inl (by rw [hm0]; exact h)
    pend := fun j _ _ h => absurd h (hlist j)
    free := fun j hj _ id h1 h2 => by
      have g1 := D.le (i := 0) (j := j) (by omega) (by omega)
      have g2 := D.le (i := j + 1) (j := l.length) (by omega) (Nat.le_refl _)
      rw [hm0] at g1; rw [hmN] at g2
      exact hF id (by omega) (by omega)
    late := fun j h => by omega
    ext := Ext.refl _
    new := fun id e h => .inl h
    size := Nat.le_refl _
    rest := ⟨rfl, rfl, rfl⟩
    frame := fun _ _ _ => rfl
    own := fun b _ h => by rw [hm0]; exact h
    off := fun id _ _ => by rw [hm0]
    tsize := hT.size
    tval := fun t v hv => by
      rcases hv with ⟨i, o, _, hSi, _⟩ | ⟨_, h⟩
      · exact absurd hSi (hlist i)
      · rw [ht0] at h; exact hT.val t v h
    defs := rfl
    closed := fun j o _ h => absurd h (hlist j) }
  refine wp_region_any hmix (Inv.all D (w0 := w) (ds := a.defers) hG (fun a' w' ⟨S, q, ρ', M, hall, I⟩ => hQ a' w' ?fin) _ 0 ρ s.mem.get a w.drew (by simp [hl.len]) ?cnt I0)
  case fin =>
    obtain ⟨M1, I1⟩ := Inv.advTo D (l.length - q) I (by have := I.q_le; omega) (fun i x h1 h2 h3 => by
      cases hx : isE x.op with
      | false => rfl
      | true =>
        have hil : i < l.length := by have := I.q_le; omega
        have := (I.eS i x h3 hx).1 (hall i hil); omega)
    have e : q + (l.length - q) = l.length := by have := I.q_le; omega
    rw [e] at I1
    have hMN : ∀ id, M1 id = (sn l.length).ms.mem.get id := fun id => by
      cases hx : M1 id with
      | some s' =>
        rcases I1.down id s' hx with h | ⟨k, h1, h2, _⟩
        · rw [h]
        · omega
      | none =>
        cases hy : (sn l.length).ms.mem.get id with
        | none => rfl
        | some s' => rw [I1.up id s' hy] at hx; cases hx
    refine ⟨I1.defs, ρ', ⟨I1.tsize, fun t v hv => ?_⟩, ?_⟩
    · have hsnap := TV.snap hTr l.length (Nat.le_refl _) t v (by rw [htN]; exact hv)
      exact I1.tval t v (hsnap.congr fun i x hx _ => by
        have : i < l.length := by
          rcases Nat.lt_or_ge i l.length with h | h
          · exact h
          · rw [List.getElem?_eq_none h] at hx; cases hx
        exact ⟨fun _ => hall i this, fun _ => this⟩)
    · have hsq := I1.simq D
      rw [hmN] at hsq
      refine ⟨I1.ext, fun id e' h => ?_, hsq, I1.size, fun b hb hn => ?_, fun b hb ho => ?_, fun id h1 h2 => ?_, ?_, I1.rest⟩
      · have := I1.new id e' h; rw [hm0, hmN] at this; exact this
      · refine I1.frame b hb ?_; rw [hm0]; exact hn
      · have := I1.own b hb ?_
        · rw [hm0] at this; exact this
        · obtain ⟨id, e', s', g1, g2, g3, g4⟩ := ho
          exact ⟨id, e', s', g1, g2, I1.up id s' (by rw [hmN]; exact g3), g4⟩
      · have := I1.off id h1 (by rw [hm0, hmN]; exact h2)
        rw [hMN, hm0, hmN] at this; exact this
      · have := D.le (i := 0) (j := l.length) (by omega) (Nat.le_refl _)
        rw [hm0, hmN] at this; exact this
  case cnt =>
    refine Nat.le_trans (List.length_filter_le _ _) ?_
    simp [hl.len]
theorem runDraw_evo {tm : TM} {s : MS} {c : CS} (hC : CallOk P G call) (h : runDraw call sy l tm s = some c) : EvoS s c.ms := by
  unfold runDraw at h
  split at h <;> (try (cases h; done))
  rename_i ss f hrun
  split at h <;> cases h
  have : ∀ {l : List ROp} {tm : TM} {s : MS} {ss : List CS} {f : CS}, runTr call sy l tm s = some (ss, f) → EvoS s f.ms := by
    intro l
    induction l with
    | nil => intro tm s ss f h; cases h; exact EvoS.refl _
    | cons o r ih =>
      intro tm s ss f h
      simp only [runTr] at h
      split at h <;> (try (cases h; done))
      rename_i tm' s' h1
      split at h <;> cases h
      rename_i ss' h2
      obtain ⟨v, hv, _⟩ := exec1_some h1
      exact (execG_evo hC hv).trans (ih h2)
  exact this hrun
end
end Ev
end Go.Proofs.YtakgohocimlagaaGreat
