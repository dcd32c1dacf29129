/-
  An evaluator over plain data (19): code and calls; THE THEOREM: a call that the evaluation carries out to its end is the model's call, and returns what the evaluation returns. Of no program. No condition.
-/
import Derived.Test.YtakgohocimlagaaGreatEvR
namespace Go.Proofs.YtakgohocimlagaaGreat
namespace Ev
variable [E : Inhabited EnvT]
set_option linter.unusedVariables false
set_option linter.unusedSectionVars false
set_option linter.unusedSimpArgs false
open Go.RowKit Go.IntWalk

/-- a contract that holds of a function -/
def XGood (P : Program) (G : Nat → Option Nat) (f : FuncId) (k : XK) : Prop := ∀ (vs : List AV) (s : MS) (v : AV) (s' : MS), execX k vs s = some (v, s') → s'.ok → ∀ (ρ : Mp) (Vs : List Value) (w : World), GOk G ρ → Rs ρ vs Vs → Sim ρ s.mem.get w → Free ρ s.n s'.n → Bd s →
    (∀ w, (callFunc f ⟨Vs⟩).run P w = .ok (.enter f ⟨Vs⟩) w) ∧
    Calls P f ⟨Vs⟩ w fun e w' => ∃ V, e = .returned V ∧ ∃ ρ', R ρ' v V ∧ Step ρ s.mem.get s.n w ρ' s'.mem.get s'.n w'
/-- the functions' table is the program's -/
def FOk (P : Program) (G : Nat → Option Nat) (F : Nat → Option CF) : Prop := ∀ f cf, F f = some cf → (cf.x = none ∧ ∃ fn mask, P.funcs[f]? = some fn ∧ compF P G mask fn = some cf) ∨ (∃ k, cf.x = some k ∧ (∀ l, k ≠ .tab l) ∧ XGood P G f k) ∨
  (∃ l, cf.x = some (.tab l) ∧ XGood P G f (.tab l) ∧ ∃ fn mask, P.funcs[f]? = some fn ∧ compF P G mask fn = some { cf with x := none })
theorem execX_evo {k : XK} {vs : List AV} {s s' : MS} {v : AV} (h : execX k vs s = some (v, s')) : EvoS s s' := by
  unfold execX at h
  split at h
  · split at h <;> cases h
    exact ⟨evo_new, fun x => x⟩
  · cases h; exact EvoS.refl _
  · split at h <;> cases h
    exact EvoS.refl _
  · split at h
    · unfold sortC at h
      split at h
      · split at h <;> (try (cases h; done))
        unfold sortX at h
        split at h <;> (try (cases h; done))
        split at h <;> (try (cases h; done))
        split at h
        · cases h; exact EvoS.refl _
        · rw [fL_eq] at h
          cases h
          exact ⟨evo_new, fun x => x⟩
      · cases h
    · cases h
  · split at h
    · split at h <;> cases h
      exact EvoS.refl _
    · cases h
  · split at h <;> (try (cases h; done))
    rw [fL_eq, fN_eq] at h
    cases h
    exact ⟨evo_new, fun x => x⟩
  · cases h

def Ex.to : Ex → Exit
  | .norm => .normal
  | .exit id => .exit id
  | .ret => .ret
/-- code that ends as Q says; a loop: within n rounds -/
def Holds (P : Program) (n : Nat) (c : Code) (Q : Exit → Act → World → Prop) (a : Act) (w : World) : Prop := match c with
  | .loop b => Code.rounds P b Q n a w
  | c => c.wp P Q a w
theorem Holds.wp {P : Program} {n : Nat} {c : Code} {Q : Exit → Act → World → Prop} {a : Act} {w : World} (h : Holds P n c Q a w) : c.wp P Q a w := by
  cases c <;> first | exact h | exact wp_loop_rounds n h

section
variable {P : Program} {G : Nat → Option Nat} {F : Nat → Option CF} {sy : Bool}

/-- code evaluated is code run -/
def Good (P : Program) (G : Nat → Option Nat) (nt mask n : Nat) (c : Code) (s : CS) (x : Ex) (s' : CS) : Prop := s'.ms.ok → TM.Ok mask s.tm → ∀ (ρ : Mp) (a : Act) (w : World), GOk G ρ → RT ρ nt s.tm a → Sim ρ s.ms.mem.get w → Free ρ s.ms.n s'.ms.n → Bd s.ms →
  ∀ Q : Exit → Act → World → Prop, (∀ a' w', At G nt ρ s.ms w a.defers s' a' w' → Q x.to a' w') → Holds P n c Q a w

theorem free_next {ρ ρ' : Mp} {m m' : Mem} {n n1 n2 : Nat} {w w' : World} (hF : Free ρ n n2) (hst : Step ρ m n w ρ' m' n1 w') : Free ρ' n1 n2 := fun id h1 h2 => by
  have hle := hst.le
  cases hx : ρ' id with
  | none => rfl
  | some e =>
    rcases hst.new id e hx with hy | ⟨_, hb⟩
    · rw [hF id (by omega) h2] at hy; cases hy
    · omega
theorem At.next {nt : Nat} {ρ ρ1 : Mp} {s s1 : MS} {w w1 : World} {ds : List Deferred} {c : CS} {a' : Act} {w' : World} (hst : Step ρ s.mem.get s.n w ρ1 s1.mem.get s1.n w1) (h : At G nt ρ1 s1 w1 ds c a' w') : At G nt ρ s w ds c a' w' :=
  ⟨h.1, by obtain ⟨ρ', hT, hs⟩ := h.2; exact ⟨ρ', hT, hst.trans hs⟩⟩

/-! ### the trie of the temporaries holds none but those of the mask -/
theorem exec1_b {call : CallF} {o : ROp} {tm : TM} {s : MS} {c : CS} (h : exec1 call sy o tm s = some c) : c.tm.b = tm.b := by
  obtain ⟨v, _, h⟩ := exec1_some h
  rw [h]
  cases o.dst <;> rfl
theorem runSeq_b {call : CallF} : ∀ {l : List ROp} {tm : TM} {s : MS} {c : CS}, runSeq call sy l tm s = some c → c.tm.b = tm.b
  | [], tm, s, c, h => by cases h; rfl
  | o :: r, tm, s, c, h => by
    simp only [runSeq] at h
    split at h <;> (try (cases h; done))
    rename_i tm' s' h1
    exact (runSeq_b h).trans (exec1_b h1)
theorem runTr_b {call : CallF} : ∀ {l : List ROp} {tm : TM} {s : MS} {ls : List CS} {c : CS}, runTr call sy l tm s = some (ls, c) → c.tm.b = tm.b
  | [], tm, s, ls, c, h => by cases h; rfl
  | o :: r, tm, s, ls, c, h => by
    simp only [runTr] at h
    split at h <;> (try (cases h; done))
    rename_i tm' s' h1
    split at h <;> (try (cases h; done))
    rename_i ls' c' h2
    cases h
    exact (runTr_b h2).trans (exec1_b h1)
theorem runDraw_b {call : CallF} {l : List ROp} {tm : TM} {s : MS} {c : CS} (h : runDraw call sy l tm s = some c) : c.tm.b = tm.b := by
  unfold runDraw at h
  split at h <;> (try (cases h; done))
  rename_i ls c' h1
  split at h <;> cases h
  exact runTr_b h1
theorem ev_mask {nt mask : Nat} : ∀ (n : Nat) (c : Code) (s : CS) (x : Ex) (s' : CS), ev F sy n (compC P G nt mask c) s = some (x, s') → TM.Ok mask s.tm → TM.Ok mask s'.tm
  | 0, c, s, x, s', h, h0 => by rw [ev_zero] at h; cases h
  | n + 1, c, s, x, s', h, h0 => by
    have ih := ev_mask (nt := nt) (mask := mask) n
    rw [ev_succ] at h
    cases c with
    | region id ops draw =>
      simp only [compC] at h
      split at h
      · cases draw with
        | false =>
          simp only [evStep] at h
          split at h <;> (try (cases h; done))
          rename_i s1 hrun
          simp only [flK_eq, Option.some.injEq, Prod.mk.injEq] at h
          obtain ⟨rfl, rfl⟩ := h
          exact TM.flush_ok (h0.of_b (runSeq_b hrun))
        | true =>
          simp only [] at h
          split at h
          · simp only [evStep] at h
            split at h <;> (try (cases h; done))
            rename_i s1 hrun
            simp only [flK_eq, Option.some.injEq, Prod.mk.injEq] at h
            obtain ⟨rfl, rfl⟩ := h
            exact TM.flush_ok (h0.of_b (runDraw_b hrun))
          · simp only [evStep] at h; cases h
      · simp only [evStep] at h; cases h
    | seq p q =>
      simp only [compC, evStep] at h
      split at h
      · rename_i s1 h1; exact ih q _ _ _ h (ih p _ _ _ h1 h0)
      · rename_i h1; cases h; exact ih p _ _ _ h1 h0
      · cases h
    | cond cnd p q =>
      simp only [compC] at h
      split at h
      · simp only [evStep] at h
        split at h <;> (try (cases h; done))
        obtain ⟨b, s1, h1, _, _, _⟩ := dec_some h
        cases b
        · exact ih q _ _ _ h1 h0
        · exact ih p _ _ _ h1 h0
      · simp only [evStep] at h; cases h
    | block id b =>
      simp only [compC, evStep] at h
      split at h
      · rename_i h1
        split at h <;> (cases h; exact ih b _ _ _ h1 h0)
      · rename_i h1; cases h; exact ih b _ _ _ h1 h0
      · cases h
    | loop b =>
      simp only [compC, evStep] at h
      split at h
      · rename_i s1 h1; exact ih (.loop b) _ _ _ h (ih b _ _ _ h1 h0)
      · rename_i h1; cases h; exact ih b _ _ _ h1 h0
      · cases h
    | skip => simp only [compC, evStep, Option.some.injEq, Prod.mk.injEq] at h; obtain ⟨rfl, rfl⟩ := h; exact h0
    | exit id => simp only [compC, evStep, Option.some.injEq, Prod.mk.injEq] at h; obtain ⟨rfl, rfl⟩ := h; exact h0
    | ret => simp only [compC, evStep, Option.some.injEq, Prod.mk.injEq] at h; obtain ⟨rfl, rfl⟩ := h; exact h0
    | _ => simp only [compC, evStep] at h; cases h
theorem At.flush {nt mask : Nat} {ρ : Mp} {s : MS} {w : World} {ds : List Deferred} {c : CS} {a' : Act} {w' : World} (h : At G nt ρ s w ds c a' w') (h0 : TM.Ok mask c.tm) : At G nt ρ s w ds ⟨c.tm.flush mask, c.ms⟩ a' w' := by
  obtain ⟨hd, ρ', hT, hst⟩ := h
  exact ⟨hd, ρ', ⟨hT.size, fun t v hv => hT.val t v (TM.flush_get h0 hv)⟩, hst⟩

theorem code_ok {n : Nat} (hC : CallOk P G (callStep F sy (ev F sy n))) (ih : ∀ nt mask c s x s', ev F sy n (compC P G nt mask c) s = some (x, s') → EvoS s.ms s'.ms ∧ Good P G nt mask n c s x s') :
    ∀ nt mask c s x s', ev F sy (n + 1) (compC P G nt mask c) s = some (x, s') → EvoS s.ms s'.ms ∧ Good P G nt mask (n + 1) c s x s' := by
  intro nt mask c s x s' h
  rw [ev_succ] at h
  cases c with
  | skip =>
    simp only [compC, evStep, Option.some.injEq, Prod.mk.injEq] at h
    obtain ⟨rfl, rfl⟩ := h
    exact ⟨EvoS.refl _, fun _ h0 ρ a w hG hT hS hF hB Q hQ => wp_skip (hQ a w ⟨rfl, ρ, hT, Step.refl hS⟩)⟩
  | region id ops draw =>
    simp only [compC] at h
    split at h
    · rename_i l hl
      have hco := compOps_ok hl
      cases draw with
      | false =>
        simp only [evStep] at h
        split at h <;> (try (cases h; done))
        rename_i s1 hrun
        simp only [flK_eq, Option.some.injEq, Prod.mk.injEq] at h
        obtain ⟨rfl, rfl⟩ := h
        refine ⟨(runSeq_evo hC hrun : EvoS s.ms s1.ms), fun hok h0 ρ a w hG hT hS hF hB Q hQ => wp_region ?_⟩
        exact runSeq_ok hC hco 0 l _ s.tm s.ms s1 ρ a w (by simp) (by simp) hrun hok hG hT hS hF hB fun a' w' hA => hQ a' w' (hA.flush (h0.of_b (runSeq_b hrun)))
      | true =>
        simp only [] at h
        split at h
        · rename_i hp
          simp only [Bool.and_eq_true] at hp
          simp only [evStep] at h
          split at h <;> (try (cases h; done))
          rename_i s1 hrun
          simp only [flK_eq, Option.some.injEq, Prod.mk.injEq] at h
          obtain ⟨rfl, rfl⟩ := h
          exact ⟨(runDraw_evo hC hrun : EvoS s.ms s1.ms), fun hok h0 ρ a w hG hT hS hF hB Q hQ => runDraw_ok hC hco hp.1 hp.2 hrun hok hG hT hS hF hB fun a' w' hA => hQ a' w' (hA.flush (h0.of_b (runDraw_b hrun)))⟩
        · simp only [evStep] at h; cases h
    · simp only [evStep] at h; cases h
  | seq p q =>
    simp only [compC, evStep] at h
    split at h
    · rename_i s1 h1
      obtain ⟨e1, g1⟩ := ih nt mask p s .norm s1 h1
      obtain ⟨e2, g2⟩ := ih nt mask q s1 x s' h
      refine ⟨e1.trans e2, fun hok h0 ρ a w hG hT hS hF hB Q hQ => wp_seq (Holds.wp (n := n) ?_)⟩
      have hle1 := e1.evo.le
      have hle2 := e2.evo.le
      refine g1 (e2.ok hok) h0 ρ a w hG hT hS (fun id h1 h2 => hF id h1 (by omega)) hB _ fun a' w' hA => ?_
      obtain ⟨hd, ρ1, hT1, hst⟩ := hA
      show q.wp P Q a' w'
      refine Holds.wp (n := n) (g2 hok (ev_mask n _ _ _ _ h1 h0) ρ1 a' w' (hG.ext hst.ext) hT1 hst.sim (free_next hF hst) (e1.bd hB) Q fun a'' w'' hA' => ?_)
      rw [hd] at hA'
      exact hQ a'' w'' (At.next hst hA')
    · rename_i hne h1
      cases h
      obtain ⟨e1, g1⟩ := ih nt mask p s x s' h1
      refine ⟨e1, fun hok h0 ρ a w hG hT hS hF hB Q hQ => wp_seq (Holds.wp (n := n) ?_)⟩
      refine g1 hok h0 ρ a w hG hT hS hF hB _ fun a' w' hA => ?_
      cases x with
      | norm => exact (hne rfl).elim
      | exit id => exact hQ a' w' hA
      | ret => exact hQ a' w' hA
    · cases h
  | cond cnd p q =>
    simp only [compC] at h
    split at h
    · rename_i ca hca
      simp only [evStep] at h
      split at h <;> (try (cases h; done))
      rename_i cb hcb
      obtain ⟨b, s1, h1, hm, hn, h4⟩ := dec_some h
      have hBd : Bd s.ms → Bd s1 := fun hB id hid => by rw [hm]; exact hB id (by rw [← hn]; exact hid)
      cases b with
      | true =>
        obtain ⟨e1, g1⟩ := ih nt mask p ⟨s.tm, s1⟩ x s' h1
        have e1' : Evo s1.mem.get s1.n s'.ms.mem.get s'.ms.n := e1.evo
        rw [hm, hn] at e1'
        refine ⟨⟨e1', fun hok => (h4 (e1.ok hok)).1⟩, fun hok h0 ρ a w hG hT hS hF hB Q hQ => ?_⟩
        have hR := getA_ok hG hT hca hcb
        rw [(h4 (e1.ok hok)).2] at hR
        generalize hE : a.eval cnd = E at hR
        cases hR
        refine wp_cond_true hE (Holds.wp (n := n) (g1 hok h0 ρ a w hG hT (by show Sim ρ s1.mem.get w; rw [hm]; exact hS) (by show Free ρ s1.n _; rw [hn]; exact hF) (hBd hB) Q fun a' w' hA => hQ a' w' ?_))
        obtain ⟨hd, ρ', hT', hst⟩ := hA
        simp only [hm, hn] at hst
        exact ⟨hd, ρ', hT', hst⟩
      | false =>
        obtain ⟨e1, g1⟩ := ih nt mask q ⟨s.tm, s1⟩ x s' h1
        have e1' : Evo s1.mem.get s1.n s'.ms.mem.get s'.ms.n := e1.evo
        rw [hm, hn] at e1'
        refine ⟨⟨e1', fun hok => (h4 (e1.ok hok)).1⟩, fun hok h0 ρ a w hG hT hS hF hB Q hQ => ?_⟩
        have hR := getA_ok hG hT hca hcb
        rw [(h4 (e1.ok hok)).2] at hR
        generalize hE : a.eval cnd = E at hR
        cases hR
        refine wp_cond_false hE (Holds.wp (n := n) (g1 hok h0 ρ a w hG hT (by show Sim ρ s1.mem.get w; rw [hm]; exact hS) (by show Free ρ s1.n _; rw [hn]; exact hF) (hBd hB) Q fun a' w' hA => hQ a' w' ?_))
        obtain ⟨hd, ρ', hT', hst⟩ := hA
        simp only [hm, hn] at hst
        exact ⟨hd, ρ', hT', hst⟩
    · simp only [evStep] at h; cases h
  | block id b =>
    simp only [compC, evStep] at h
    split at h
    · rename_i j s1 h1
      obtain ⟨e1, g1⟩ := ih nt mask b s (.exit j) s1 h1
      split at h
      · rename_i hb
        have hj := Nat.eq_of_beq_eq_true hb
        cases h
        refine ⟨e1, fun hok h0 ρ a w hG hT hS hF hB Q hQ => wp_block (Holds.wp (n := n) (g1 hok h0 ρ a w hG hT hS hF hB _ fun a' w' hA => ?_))⟩
        show Exit.inBlock id Q (.exit j) a' w'
        simp only [Exit.inBlock, hj, if_true]
        exact hQ a' w' hA
      · rename_i hb
        have hj : j ≠ id := Nat.ne_of_beq_eq_false hb
        cases h
        refine ⟨e1, fun hok h0 ρ a w hG hT hS hF hB Q hQ => wp_block (Holds.wp (n := n) (g1 hok h0 ρ a w hG hT hS hF hB _ fun a' w' hA => ?_))⟩
        show Exit.inBlock id Q (.exit j) a' w'
        simp only [Exit.inBlock, hj, if_false]
        exact hQ a' w' hA
    · rename_i hne h1
      cases h
      obtain ⟨e1, g1⟩ := ih nt mask b s x s' h1
      refine ⟨e1, fun hok h0 ρ a w hG hT hS hF hB Q hQ => wp_block (Holds.wp (n := n) (g1 hok h0 ρ a w hG hT hS hF hB _ fun a' w' hA => ?_))⟩
      cases x with
      | norm => exact hQ a' w' hA
      | exit j => exact (hne _ rfl).elim
      | ret => exact hQ a' w' hA
    · cases h
  | loop b =>
    simp only [compC, evStep] at h
    split at h
    · rename_i s1 h1
      obtain ⟨e1, g1⟩ := ih nt mask b s .norm s1 h1
      obtain ⟨e2, g2⟩ := ih nt mask (.loop b) s1 x s' h
      refine ⟨e1.trans e2, fun hok h0 ρ a w hG hT hS hF hB Q hQ => ?_⟩
      show Code.rounds P b Q (n + 1) a w
      rw [rounds_succ]
      have hle1 := e1.evo.le
      have hle2 := e2.evo.le
      refine Holds.wp (n := n) (g1 (e2.ok hok) h0 ρ a w hG hT hS (fun id h1 h2 => hF id h1 (by omega)) hB _ fun a' w' hA => ?_)
      obtain ⟨hd, ρ1, hT1, hst⟩ := hA
      show Code.rounds P b Q n a' w'
      refine g2 hok (ev_mask n _ _ _ _ h1 h0) ρ1 a' w' (hG.ext hst.ext) hT1 hst.sim (free_next hF hst) (e1.bd hB) Q fun a'' w'' hA' => ?_
      rw [hd] at hA'
      exact hQ a'' w'' (At.next hst hA')
    · rename_i hne h1
      cases h
      obtain ⟨e1, g1⟩ := ih nt mask b s x s' h1
      refine ⟨e1, fun hok h0 ρ a w hG hT hS hF hB Q hQ => ?_⟩
      show Code.rounds P b Q (n + 1) a w
      rw [rounds_succ]
      refine Holds.wp (n := n) (g1 hok h0 ρ a w hG hT hS hF hB _ fun a' w' hA => ?_)
      cases x with
      | norm => exact (hne rfl).elim
      | exit id => exact hQ a' w' hA
      | ret => exact hQ a' w' hA
    · cases h
  | exit id =>
    simp only [compC, evStep, Option.some.injEq, Prod.mk.injEq] at h
    obtain ⟨rfl, rfl⟩ := h
    exact ⟨EvoS.refl _, fun _ h0 ρ a w hG hT hS hF hB Q hQ => wp_exit (hQ a w ⟨rfl, ρ, hT, Step.refl hS⟩)⟩
  | ret =>
    simp only [compC, evStep, Option.some.injEq, Prod.mk.injEq] at h
    obtain ⟨rfl, rfl⟩ := h
    exact ⟨EvoS.refl _, fun _ h0 ρ a w hG hT hS hF hB Q hQ => wp_ret (hQ a w ⟨rfl, ρ, hT, Step.refl hS⟩)⟩
  | _ => simp only [compC, evStep] at h; cases h

/-! ### calls -/
theorem putArgs_get : ∀ {vs : List AV} {tm : T AV} {i : Nat} {t : Nat} {v : AV}, (putArgs tm i vs).get t = some v → (t < i ∨ i + vs.length ≤ t) ∧ tm.get t = some v ∨ (i ≤ t ∧ vs[t - i]? = some v)
  | [], tm, i, t, v, h => .inl ⟨by simp; omega, h⟩
  | x :: r, tm, i, t, v, h => by
    simp only [putArgs] at h
    rcases putArgs_get h with ⟨h1, h2⟩ | ⟨h1, h2⟩
    · rw [T.get_set] at h2
      split at h2
      · rename_i e; subst e; cases h2
        right; exact ⟨Nat.le_refl _, by simp⟩
      · rename_i e
        left; exact ⟨by simp; omega, h2⟩
    · right
      refine ⟨by omega, ?_⟩
      have : t - i = (t - (i + 1)) + 1 := by omega
      rw [this]; simpa using h2
theorem args_RT {ρ : Mp} {vs : List AV} {Vs : List Value} {nt : Nat} (hR : Rs ρ vs Vs) (hle : vs.length ≤ nt) :
    RT ρ nt ⟨putArgs .e 0 vs, []⟩ { tmps := (⟨Vs⟩ : Array Value) ++ Array.replicate (nt - (⟨Vs⟩ : Array Value).size) undef, defers := [] } := by
  have hl := hR.length
  refine ⟨by simp; omega, fun t v h => ?_⟩
  have h : (putArgs .e 0 vs).get t = some v := h
  rcases putArgs_get h with ⟨_, h2⟩ | ⟨_, h2⟩
  · simp only [T.get] at h2; cases h2
  · rw [Nat.sub_zero] at h2
    obtain ⟨V, hV, hRV⟩ := Rs.get hR h2
    have ht : t < vs.length := by
      rcases Nat.lt_or_ge t vs.length with h | h
      · exact h
      · rw [List.getElem?_eq_none h] at h2; cases h2
    refine ⟨by omega, ?_⟩
    have : ((⟨Vs⟩ : Array Value) ++ Array.replicate (nt - (⟨Vs⟩ : Array Value).size) undef).getD t undef = V := by
      rw [Array.getD_eq_getD_getElem?, Array.getElem?_append_left (by simp; omega)]
      simp [hV]
    rw [this]; exact hRV

theorem allBits_of {mask t : Nat} : ∀ {k : Nat}, allBits mask k = true → t < k → Nat.testBit mask t = true
  | 0, h, ht => absurd ht (Nat.not_lt_zero _)
  | k + 1, h, ht => by
    simp only [allBits, Bool.and_eq_true] at h
    rcases Nat.lt_or_ge t k with h1 | h1
    · exact allBits_of h.2 h1
    · have : t = k := by omega
      rw [this]; exact h.1
theorem args_Ok {mask : Nat} {vs : List AV} (h : allBits mask vs.length = true) : TM.Ok mask ⟨putArgs .e 0 vs, []⟩ := fun t v hv => by
  have hv : (putArgs .e 0 vs).get t = some v := hv
  rcases putArgs_get hv with ⟨_, h2⟩ | ⟨_, h2⟩
  · simp only [T.get] at h2; cases h2
  · refine allBits_of h ?_
    rw [Nat.sub_zero] at h2
    rcases Nat.lt_or_ge t vs.length with h | h
    · exact h
    · rw [List.getElem?_eq_none h] at h2; cases h2

theorem res_run {ρ : Mp} {nt : Nat} {tm : TM} {a : Act} {m : T Slot} {w : World} {f : ResultVar → Sem Value} (hT : RT ρ nt tm a) (hS : Sim ρ m.get w) (h1 : ∀ t, f (.tmp t) = pure (a.tmps.getD t undef))
    (h2 : ∀ x t, f (.cell x t) = (do loadVar t (← asAddr (a.tmps.getD x undef)))) : ∀ {rs : List ResultVar} {cs : List CR} {vs : List AV}, compR P rs = some cs → allRes tm m cs = some vs →
    ∃ Vs, Rs ρ vs Vs ∧ (rs.mapM f).run P w = .ok Vs w
  | [], cs, vs, hc, hv => by
    simp only [compR, Option.some.injEq] at hc; subst hc
    simp only [allRes, Option.some.injEq] at hv; subst hv
    exact ⟨[], .nil, rfl⟩
  | .tmp t :: rs, cs, vs, hc, hv => by
    simp only [compR] at hc
    split at hc <;> cases hc
    rename_i l hl
    simp only [allRes, oneRes] at hv
    split at hv <;> (try (cases hv; done))
    rename_i v hvt
    split at hv <;> cases hv
    rename_i l' hl'
    obtain ⟨Vs, hVs, hr⟩ := res_run hT hS h1 h2 hl hl'
    refine ⟨_ :: Vs, .cons (hT.val t v hvt).2 hVs, ?_⟩
    simp only [List.mapM_cons, h1, Sem.run_bind, Sem.run_pure, Result.andThen_ok, hr]
  | .cell x t :: rs, cs, vs, hc, hv => by
    simp only [compR] at hc
    split at hc <;> cases hc
    rename_i i d l hi hd hl
    simp only [allRes, oneRes] at hv
    split at hv <;> (try (cases hv; done))
    rename_i v hvt
    split at hv <;> cases hv
    rename_i l' hl'
    split at hvt <;> (try (cases hvt; done))
    rename_i id off hp
    split at hvt <;> (try (cases hvt; done))
    rename_i sl hsl
    obtain ⟨Vs, hVs, hr⟩ := res_run hT hS h1 h2 hl hl'
    have hR := (hT.val x _ hp).2
    generalize hX : a.tmps.getD x undef = X at hR
    have hR' := hR
    cases hR with
    | ptr he =>
      rename_i e
      obtain ⟨xx, hxx, hrel⟩ := hS.rel id e sl he hsl
      obtain ⟨V, hV, hld⟩ := ld_gives (P := P) (w := w) hd hi hvt (.cons hR' .nil) (fun id' h' => by
        simp only [tgt, Option.some.injEq] at h'; subst h'; exact ⟨e, xx, he, hxx, hrel⟩)
      refine ⟨V :: Vs, .cons hV hVs, ?_⟩
      unfold Instr.loadAt at hld
      simp only [Instr.sureAddr, Sem.run_bind, Sem.run_pure, Result.andThen_ok] at hld
      simp only [List.mapM_cons, h2, hX, asAddr, Sem.run_bind, Sem.run_pure, Result.andThen_ok, hld, hr]

def resW : List Value → Value
  | [V] => V
  | Vs => .tuple ⟨Vs⟩
theorem resV_R {ρ : Mp} {l : List AV} {Rv : List Value} (h : Rs ρ l Rv) : R ρ (resV l) (resW Rv) := by
  cases h with
  | nil => exact .tup .nil
  | cons hv hs =>
    cases hs with
    | nil => exact hv
    | cons hv2 hs2 => exact .tup (.cons hv (.cons hv2 hs2))
theorem call_ok (hFk : FOk P G F) {n : Nat} (ih : ∀ nt mask c s x s', ev F sy n (compC P G nt mask c) s = some (x, s') → EvoS s.ms s'.ms ∧ Good P G nt mask n c s x s') : CallOk P G (callStep F sy (ev F sy n)) := by
  have key : ∀ f vs s v s', callStep F sy (ev F sy n) f vs s = some (v, s') → (∃ k, execX k vs s = some (v, s') ∧ XGood P G f k) ∨ ∃ fn mask c cf x s1 l, P.funcs[f]? = some fn ∧ fn.body = some c ∧ fn.name ≠ "runtime.NumGoroutine" ∧ compR P fn.results.toList = some cf ∧
      vs.length ≤ fn.ntmps ∧ allBits mask vs.length = true ∧ ev F sy n (compC P G fn.ntmps mask c) ⟨⟨putArgs .e 0 vs, []⟩, s⟩ = some (x, s1) ∧ (x = .norm ∨ x = .ret) ∧ allRes s1.tm s1.ms.mem cf = some l ∧ v = resV l ∧ s' = s1.ms := by
    intro f vs s v s' h
    have body : ∀ (cf : CF) (fn : Func) (mask : Nat), P.funcs[f]? = some fn → compF P G mask fn = some cf → callBody (ev F sy n) cf vs s = some (v, s') → ∃ fn mask c cf x s1 l, P.funcs[f]? = some fn ∧ fn.body = some c ∧ fn.name ≠ "runtime.NumGoroutine" ∧ compR P fn.results.toList = some cf ∧
      vs.length ≤ fn.ntmps ∧ allBits mask vs.length = true ∧ ev F sy n (compC P G fn.ntmps mask c) ⟨⟨putArgs .e 0 vs, []⟩, s⟩ = some (x, s1) ∧ (x = .norm ∨ x = .ret) ∧ allRes s1.tm s1.ms.mem cf = some l ∧ v = resV l ∧ s' = s1.ms := by
      intro cf fn mask hfn hcomp h
      simp only [callBody] at h
      unfold compF at hcomp
      split at hcomp <;> (try (cases hcomp; done))
      rename_i c hbody
      split at hcomp <;> (try (cases hcomp; done))
      rename_i hname
      split at hcomp <;> cases hcomp
      rename_i r hr
      split at h <;> (try (cases h; done))
      rename_i hble
      simp only [Bool.and_eq_true] at hble
      simp only [T.seq_eq] at h
      split at h <;> (try (cases h; done))
      rename_i x s1 hne hev
      split at h <;> cases h
      rename_i l hl
      refine ⟨fn, mask, c, r, x, s1, l, hfn, hbody, hname, hr, Nat.le_of_ble_eq_true hble.1, hble.2, hev, ?_, hl, rfl, rfl⟩
      cases x with
      | norm => exact .inl rfl
      | ret => exact .inr rfl
      | exit id => exact (hne _ rfl).elim
    unfold callStep at h
    split at h <;> (try (cases h; done))
    rename_i cf hcf
    rcases hFk f cf hcf with ⟨hx0, fn, mask, hfn, hcomp⟩ | ⟨k, hx0, hnt, hgood⟩ | ⟨l, hx0, hgood, fn, mask, hfn, hcomp⟩
    · rw [hx0] at h
      exact .inr (body cf fn mask hfn hcomp h)
    · rw [hx0] at h
      simp only [] at h
      exact .inl ⟨k, h, hgood⟩
    · rw [hx0] at h
      simp only [] at h
      split at h
      · rename_i u hu
        exact .inl ⟨.tab l, by simp only [execX, hu]; exact h, hgood⟩
      · exact .inr (body { cf with x := none } fn mask hfn hcomp h)
  refine ⟨fun f vs s v s' h => ?_, fun f vs s v s' h hok ρ Vs w hG hR hS hF hB => ?_⟩
  · rcases key f vs s v s' h with ⟨k, hx, _⟩ | ⟨fn, mask, c, cf, x, s1, l, _, _, _, _, _, _, hev, _, _, _, rfl⟩
    · exact execX_evo hx
    exact (ih _ _ _ _ _ _ hev).1
  · rcases key f vs s v s' h with ⟨k, hx, hgood⟩ | hrest
    · exact hgood vs s v s' hx hok ρ Vs w hG hR hS hF hB
    obtain ⟨fn, mask, c, cf, x, s1, l, hfn, hbody, hname, hcr, hle, hbits, hev, hx, hl, rfl, rfl⟩ := hrest
    refine ⟨fun w => ?_, ?_⟩
    · unfold callFunc
      have hn : (fn.name == "runtime.NumGoroutine") = false := by simpa using hname
      simp only [Sem.run_bind, run_program, Result.andThen_ok, hfn, hn, Bool.false_eq_true, if_false, hbody, Option.isNone_some, Sem.run_pure]
    · obtain ⟨_, g⟩ := ih _ _ _ _ _ _ hev
      refine calls_of_wp hfn hbody (Holds.wp (n := n) (g hok (args_Ok hbits) ρ _ w hG (args_RT hR hle) hS hF hB _ fun a' w' hA => ?_))
      obtain ⟨hd, ρ', hT', hst⟩ := hA
      obtain ⟨Rv, hRv, hrun⟩ := res_run (P := P) (f := fun r => match r with
        | .tmp t => pure (a'.tmps.getD t undef)
        | .cell x t => do loadVar t (← asAddr (a'.tmps.getD x undef))) hT' hst.sim (fun _ => rfl) (fun _ _ => rfl) hcr hl
      have hres : (results fn a'.tmps).run P w' = .ok (resW Rv) w' := by
        unfold results
        rw [Array.mapM_eq_mapM_toList]
        simp only [Sem.run_bind, Sem.run_map]
        refine (congrArg (fun r : Result (List Value) => (r.andThen fun a w' => .ok a.toArray w').andThen fun vs w' => (pure (if h : vs.size = 1 then vs[0] else .tuple vs) : Sem Value).run P w') hrun).trans ?_
        simp only [Result.andThen_ok, Sem.run_pure]
        congr 1
        match Rv with
        | [] => rfl
        | [V] => rfl
        | V :: W :: r => simp [resW]
      have hV : R ρ' (resV l) (resW Rv) := resV_R hRv
      rcases hx with rfl | rfl
      · exact ⟨hd, _, hres, _, rfl, ρ', hV, hst⟩
      · exact ⟨hd, _, hres, _, rfl, ρ', hV, hst⟩

theorem ev_ok (hFk : FOk P G F) : ∀ (n : Nat) nt mask c s x s', ev F sy n (compC P G nt mask c) s = some (x, s') → EvoS s.ms s'.ms ∧ Good P G nt mask n c s x s'
  | 0 => fun nt mask c s x s' h => by rw [ev_zero] at h; cases h
  | n + 1 => code_ok (call_ok hFk (ev_ok hFk n)) (ev_ok hFk n)

/-- a whole evaluation of a call, nothing there before -/
def evCall (F : Nat → Option CF) (sy : Bool) (hs : List (Nat × Bool)) (n : Nat) (f : FuncId) (vs : List AV) (m : T Slot) (k : Nat) : Option (AV × MS) := callStep F sy (ev F sy n) f vs ⟨m, k, hs, True⟩

/-- THE THEOREM. -/
theorem evCall_ok (hFk : FOk P G F) {hs : List (Nat × Bool)} {n f k : Nat} {vs : List AV} {m : T Slot} {v : AV} {s' : MS} (h : evCall F sy hs n f vs m k = some (v, s')) (hok : s'.ok) {ρ : Mp} {Vs : List Value} {w : World} (hG : GOk G ρ) (hR : Rs ρ vs Vs)
    (hS : Sim ρ m.get w) (hρ : ∀ id, k ≤ id → ρ id = none) (hm : ∀ id, k ≤ id → m.get id = none) :
    Calls P f ⟨Vs⟩ w fun e w' => ∃ V, e = .returned V ∧ ∃ ρ', R ρ' v V ∧ Step ρ m.get k w ρ' s'.mem.get s'.n w' :=
  ((call_ok hFk (ev_ok hFk n)).ok f vs _ v s' h hok ρ Vs w hG hR hS (fun id h1 _ => hρ id h1) (fun id h1 => hm id h1)).2
end
end Ev
end Go.Proofs.YtakgohocimlagaaGreat
