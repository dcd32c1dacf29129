/-
  An evaluator over plain data (19): code and calls; THE THEOREM: a call that the evaluation carries out to its end is the model's call, and returns what the evaluation returns. Of no program. No condition.
-/
import Derived.Test.YtgaidloicmkdaaaEvR
namespace Go.Proofs.Ytgaidloicmkdaaa
namespace Ev
set_option linter.unusedVariables false
set_option linter.unusedSimpArgs false
open Go.RowKit Go.IntWalk

/-- the functions' table is the program's -/
def FOk (P : Program) (G : Nat → Option Nat) (F : Nat → Option CF) : Prop := ∀ f cf, F f = some cf → ∃ fn, P.funcs[f]? = some fn ∧ compF P G fn = some cf

def Ex.to : Ex → Exit
  | .norm => .normal
  | .exit id => .exit id
  | .ret => .ret
/-- code that ends as Q says; a loop: within n rounds -/
def Holds (P : Program) (n : Nat) (c : Code) (Q : Exit → Act → World → Prop) (a : Act) (w : World) : Prop := match c with
  | .loop b => Code.rounds P b Q n a w
  | c => c.wp P Q a w
theorem Holds.wp {P : Program} {n : Nat} {c : Code} {Q : Exit → Act → World → Prop} {a : Act} {w : World} (h : Holds P n c Q a w) : c.wp P Q a w := by
  cases c <;> first | exact h | exact wp_loop_rounds n h

section
variable {P : Program} {G : Nat → Option Nat} {F : Nat → Option CF} {sy : Bool}

/-- code evaluated is code run -/
def Good (P : Program) (G : Nat → Option Nat) (nt n : Nat) (c : Code) (s : CS) (x : Ex) (s' : CS) : Prop := s'.ms.ok → ∀ (ρ : Mp) (a : Act) (w : World), GOk G ρ → RT ρ nt s.tm a → Sim ρ s.ms.mem.get w → Free ρ s.ms.n s'.ms.n → Bd s.ms →
  ∀ Q : Exit → Act → World → Prop, (∀ a' w', At G nt ρ s.ms w a.defers s' a' w' → Q x.to a' w') → Holds P n c Q a w

theorem free_next {ρ ρ' : Mp} {m m' : Mem} {n n1 n2 : Nat} {w w' : World} (hF : Free ρ n n2) (hst : Step ρ m n w ρ' m' n1 w') : Free ρ' n1 n2 := fun id h1 h2 => by
  have hle := hst.le
  cases hx : ρ' id with
  | none => rfl
  | some e =>
    rcases hst.new id e hx with hy | ⟨_, hb⟩
    · rw [hF id (by omega) h2] at hy; cases hy
    · omega
theorem At.next {nt : Nat} {ρ ρ1 : Mp} {s s1 : MS} {w w1 : World} {ds : List Deferred} {c : CS} {a' : Act} {w' : World} (hst : Step ρ s.mem.get s.n w ρ1 s1.mem.get s1.n w1) (h : At G nt ρ1 s1 w1 ds c a' w') : At G nt ρ s w ds c a' w' :=
  ⟨h.1, by obtain ⟨ρ', hT, hs⟩ := h.2; exact ⟨ρ', hT, hst.trans hs⟩⟩

theorem code_ok {n : Nat} (hC : CallOk P G (callStep F sy (ev F sy n))) (ih : ∀ nt c s x s', ev F sy n (compC P G nt c) s = some (x, s') → EvoS s.ms s'.ms ∧ Good P G nt n c s x s') :
    ∀ nt c s x s', ev F sy (n + 1) (compC P G nt c) s = some (x, s') → EvoS s.ms s'.ms ∧ Good P G nt (n + 1) c s x s' := by
  intro nt c s x s' h
  rw [ev_succ] at h
  cases c with
  | skip =>
    simp only [compC, evStep, Option.some.injEq, Prod.mk.injEq] at h
    obtain ⟨rfl, rfl⟩ := h
    exact ⟨EvoS.refl _, fun _ ρ a w hG hT hS hF hB Q hQ => wp_skip (hQ a w ⟨rfl, ρ, hT, Step.refl hS⟩)⟩
  | region id ops draw =>
    simp only [compC] at h
    split at h
    · rename_i l hl
      have hco := compOps_ok hl
      cases draw with
      | false =>
        simp only [evStep] at h
        split at h <;> cases h
        rename_i hrun
        refine ⟨runSeq_evo hC hrun, fun hok ρ a w hG hT hS hF hB Q hQ => wp_region ?_⟩
        exact runSeq_ok hC hco 0 l _ s.tm s.ms s' ρ a w (by simp) (by simp) hrun hok hG hT hS hF hB fun a' w' hA => hQ a' w' hA
      | true =>
        simp only [] at h
        split at h
        · rename_i hp
          simp only [Bool.and_eq_true] at hp
          simp only [evStep] at h
          split at h <;> cases h
          rename_i hrun
          exact ⟨runDraw_evo hC hrun, fun hok ρ a w hG hT hS hF hB Q hQ => runDraw_ok hC hco hp.1 hp.2 hrun hok hG hT hS hF hB fun a' w' hA => hQ a' w' hA⟩
        · simp only [evStep] at h; cases h
    · simp only [evStep] at h; cases h
  | seq p q =>
    simp only [compC, evStep] at h
    split at h
    · rename_i s1 h1
      obtain ⟨e1, g1⟩ := ih nt p s .norm s1 h1
      obtain ⟨e2, g2⟩ := ih nt q s1 x s' h
      refine ⟨e1.trans e2, fun hok ρ a w hG hT hS hF hB Q hQ => wp_seq (Holds.wp (n := n) ?_)⟩
      have hle1 := e1.evo.le
      have hle2 := e2.evo.le
      refine g1 (e2.ok hok) ρ a w hG hT hS (fun id h1 h2 => hF id h1 (by omega)) hB _ fun a' w' hA => ?_
      obtain ⟨hd, ρ1, hT1, hst⟩ := hA
      show q.wp P Q a' w'
      refine Holds.wp (n := n) (g2 hok ρ1 a' w' (hG.ext hst.ext) hT1 hst.sim (free_next hF hst) (e1.bd hB) Q fun a'' w'' hA' => ?_)
      rw [hd] at hA'
      exact hQ a'' w'' (At.next hst hA')
    · rename_i hne h1
      cases h
      obtain ⟨e1, g1⟩ := ih nt p s x s' h1
      refine ⟨e1, fun hok ρ a w hG hT hS hF hB Q hQ => wp_seq (Holds.wp (n := n) ?_)⟩
      refine g1 hok ρ a w hG hT hS hF hB _ fun a' w' hA => ?_
      cases x with
      | norm => exact (hne rfl).elim
      | exit id => exact hQ a' w' hA
      | ret => exact hQ a' w' hA
    · cases h
  | cond cnd p q =>
    simp only [compC] at h
    split at h
    · rename_i ca hca
      simp only [evStep] at h
      split at h <;> (try (cases h; done))
      rename_i cb hcb
      obtain ⟨b, s1, h1, hm, hn, h4⟩ := dec_some h
      have hBd : Bd s.ms → Bd s1 := fun hB id hid => by rw [hm]; exact hB id (by rw [← hn]; exact hid)
      cases b with
      | true =>
        obtain ⟨e1, g1⟩ := ih nt p ⟨s.tm, s1⟩ x s' h1
        have e1' : Evo s1.mem.get s1.n s'.ms.mem.get s'.ms.n := e1.evo
        rw [hm, hn] at e1'
        refine ⟨⟨e1', fun hok => (h4 (e1.ok hok)).1⟩, fun hok ρ a w hG hT hS hF hB Q hQ => ?_⟩
        have hR := getA_ok hG hT hca hcb
        rw [(h4 (e1.ok hok)).2] at hR
        generalize hE : a.eval cnd = E at hR
        cases hR
        refine wp_cond_true hE (Holds.wp (n := n) (g1 hok ρ a w hG hT (by show Sim ρ s1.mem.get w; rw [hm]; exact hS) (by show Free ρ s1.n _; rw [hn]; exact hF) (hBd hB) Q fun a' w' hA => hQ a' w' ?_))
        obtain ⟨hd, ρ', hT', hst⟩ := hA
        simp only [hm, hn] at hst
        exact ⟨hd, ρ', hT', hst⟩
      | false =>
        obtain ⟨e1, g1⟩ := ih nt q ⟨s.tm, s1⟩ x s' h1
        have e1' : Evo s1.mem.get s1.n s'.ms.mem.get s'.ms.n := e1.evo
        rw [hm, hn] at e1'
        refine ⟨⟨e1', fun hok => (h4 (e1.ok hok)).1⟩, fun hok ρ a w hG hT hS hF hB Q hQ => ?_⟩
        have hR := getA_ok hG hT hca hcb
        rw [(h4 (e1.ok hok)).2] at hR
        generalize hE : a.eval cnd = E at hR
        cases hR
        refine wp_cond_false hE (Holds.wp (n := n) (g1 hok ρ a w hG hT (by show Sim ρ s1.mem.get w; rw [hm]; exact hS) (by show Free ρ s1.n _; rw [hn]; exact hF) (hBd hB) Q fun a' w' hA => hQ a' w' ?_))
        obtain ⟨hd, ρ', hT', hst⟩ := hA
        simp only [hm, hn] at hst
        exact ⟨hd, ρ', hT', hst⟩
    · simp only [evStep] at h; cases h
  | block id b =>
    simp only [compC, evStep] at h
    split at h
    · rename_i j s1 h1
      obtain ⟨e1, g1⟩ := ih nt b s (.exit j) s1 h1
      split at h
      · rename_i hb
        have hj := Nat.eq_of_beq_eq_true hb
        cases h
        refine ⟨e1, fun hok ρ a w hG hT hS hF hB Q hQ => wp_block (Holds.wp (n := n) (g1 hok ρ a w hG hT hS hF hB _ fun a' w' hA => ?_))⟩
        show Exit.inBlock id Q (.exit j) a' w'
        simp only [Exit.inBlock, hj, if_true]
        exact hQ a' w' hA
      · rename_i hb
        have hj : j ≠ id := Nat.ne_of_beq_eq_false hb
        cases h
        refine ⟨e1, fun hok ρ a w hG hT hS hF hB Q hQ => wp_block (Holds.wp (n := n) (g1 hok ρ a w hG hT hS hF hB _ fun a' w' hA => ?_))⟩
        show Exit.inBlock id Q (.exit j) a' w'
        simp only [Exit.inBlock, hj, if_false]
        exact hQ a' w' hA
    · rename_i hne h1
      cases h
      obtain ⟨e1, g1⟩ := ih nt b s x s' h1
      refine ⟨e1, fun hok ρ a w hG hT hS hF hB Q hQ => wp_block (Holds.wp (n := n) (g1 hok ρ a w hG hT hS hF hB _ fun a' w' hA => ?_))⟩
      cases x with
      | norm => exact hQ a' w' hA
      | exit j => exact (hne _ rfl).elim
      | ret => exact hQ a' w' hA
    · cases h
  | loop b =>
    simp only [compC, evStep] at h
    split at h
    · rename_i s1 h1
      obtain ⟨e1, g1⟩ := ih nt b s .norm s1 h1
      obtain ⟨e2, g2⟩ := ih nt (.loop b) s1 x s' h
      refine ⟨e1.trans e2, fun hok ρ a w hG hT hS hF hB Q hQ => ?_⟩
      show Code.rounds P b Q (n + 1) a w
      rw [rounds_succ]
      have hle1 := e1.evo.le
      have hle2 := e2.evo.le
      refine Holds.wp (n := n) (g1 (e2.ok hok) ρ a w hG hT hS (fun id h1 h2 => hF id h1 (by omega)) hB _ fun a' w' hA => ?_)
      obtain ⟨hd, ρ1, hT1, hst⟩ := hA
      show Code.rounds P b Q n a' w'
      refine g2 hok ρ1 a' w' (hG.ext hst.ext) hT1 hst.sim (free_next hF hst) (e1.bd hB) Q fun a'' w'' hA' => ?_
      rw [hd] at hA'
      exact hQ a'' w'' (At.next hst hA')
    · rename_i hne h1
      cases h
      obtain ⟨e1, g1⟩ := ih nt b s x s' h1
      refine ⟨e1, fun hok ρ a w hG hT hS hF hB Q hQ => ?_⟩
      show Code.rounds P b Q (n + 1) a w
      rw [rounds_succ]
      refine Holds.wp (n := n) (g1 hok ρ a w hG hT hS hF hB _ fun a' w' hA => ?_)
      cases x with
      | norm => exact (hne rfl).elim
      | exit id => exact hQ a' w' hA
      | ret => exact hQ a' w' hA
    · cases h
  | exit id =>
    simp only [compC, evStep, Option.some.injEq, Prod.mk.injEq] at h
    obtain ⟨rfl, rfl⟩ := h
    exact ⟨EvoS.refl _, fun _ ρ a w hG hT hS hF hB Q hQ => wp_exit (hQ a w ⟨rfl, ρ, hT, Step.refl hS⟩)⟩
  | ret =>
    simp only [compC, evStep, Option.some.injEq, Prod.mk.injEq] at h
    obtain ⟨rfl, rfl⟩ := h
    exact ⟨EvoS.refl _, fun _ ρ a w hG hT hS hF hB Q hQ => wp_ret (hQ a w ⟨rfl, ρ, hT, Step.refl hS⟩)⟩
  | _ => simp only [compC, evStep] at h; cases h

/-! ### calls -/
theorem putArgs_get : ∀ {vs : List AV} {tm : T AV} {i : Nat} {t : Nat} {v : AV}, (putArgs tm i vs).get t = some v → (t < i ∨ i + vs.length ≤ t) ∧ tm.get t = some v ∨ (i ≤ t ∧ vs[t - i]? = some v)
  | [], tm, i, t, v, h => .inl ⟨by simp; omega, h⟩
  | x :: r, tm, i, t, v, h => by
    simp only [putArgs] at h
    rcases putArgs_get h with ⟨h1, h2⟩ | ⟨h1, h2⟩
    · rw [T.get_set] at h2
      split at h2
      · rename_i e; subst e; cases h2
        right; exact ⟨Nat.le_refl _, by simp⟩
      · rename_i e
        left; exact ⟨by simp; omega, h2⟩
    · right
      refine ⟨by omega, ?_⟩
      have : t - i = (t - (i + 1)) + 1 := by omega
      rw [this]; simpa using h2
theorem args_RT {ρ : Mp} {vs : List AV} {Vs : List Value} {nt : Nat} (hR : Rs ρ vs Vs) (hle : vs.length ≤ nt) :
    RT ρ nt (putArgs .e 0 vs) { tmps := (⟨Vs⟩ : Array Value) ++ Array.replicate (nt - (⟨Vs⟩ : Array Value).size) undef, defers := [] } := by
  have hl := hR.length
  refine ⟨by simp; omega, fun t v h => ?_⟩
  rcases putArgs_get h with ⟨_, h2⟩ | ⟨_, h2⟩
  · simp only [T.get] at h2; cases h2
  · rw [Nat.sub_zero] at h2
    obtain ⟨V, hV, hRV⟩ := Rs.get hR h2
    have ht : t < vs.length := by
      rcases Nat.lt_or_ge t vs.length with h | h
      · exact h
      · rw [List.getElem?_eq_none h] at h2; cases h2
    refine ⟨by omega, ?_⟩
    have : ((⟨Vs⟩ : Array Value) ++ Array.replicate (nt - (⟨Vs⟩ : Array Value).size) undef).getD t undef = V := by
      rw [Array.getD_eq_getD_getElem?, Array.getElem?_append_left (by simp; omega)]
      simp [hV]
    rw [this]; exact hRV

theorem res_run {ρ : Mp} {nt : Nat} {tm : T AV} {a : Act} {m : T Slot} {w : World} {f : ResultVar → Sem Value} (hT : RT ρ nt tm a) (hS : Sim ρ m.get w) (h1 : ∀ t, f (.tmp t) = pure (a.tmps.getD t undef))
    (h2 : ∀ x t, f (.cell x t) = (do loadVar t (← asAddr (a.tmps.getD x undef)))) : ∀ {rs : List ResultVar} {cs : List CR} {vs : List AV}, compR P rs = some cs → allRes tm m cs = some vs →
    ∃ Vs, Rs ρ vs Vs ∧ (rs.mapM f).run P w = .ok Vs w
  | [], cs, vs, hc, hv => by
    simp only [compR, Option.some.injEq] at hc; subst hc
    simp only [allRes, Option.some.injEq] at hv; subst hv
    exact ⟨[], .nil, rfl⟩
  | .tmp t :: rs, cs, vs, hc, hv => by
    simp only [compR] at hc
    split at hc <;> cases hc
    rename_i l hl
    simp only [allRes, oneRes] at hv
    split at hv <;> (try (cases hv; done))
    rename_i v hvt
    split at hv <;> cases hv
    rename_i l' hl'
    obtain ⟨Vs, hVs, hr⟩ := res_run hT hS h1 h2 hl hl'
    refine ⟨_ :: Vs, .cons (hT.val t v hvt).2 hVs, ?_⟩
    simp only [List.mapM_cons, h1, Sem.run_bind, Sem.run_pure, Result.andThen_ok, hr]
  | .cell x t :: rs, cs, vs, hc, hv => by
    simp only [compR] at hc
    split at hc <;> cases hc
    rename_i i d l hi hd hl
    simp only [allRes, oneRes] at hv
    split at hv <;> (try (cases hv; done))
    rename_i v hvt
    split at hv <;> cases hv
    rename_i l' hl'
    split at hvt <;> (try (cases hvt; done))
    rename_i id off hp
    split at hvt <;> (try (cases hvt; done))
    rename_i sl hsl
    obtain ⟨Vs, hVs, hr⟩ := res_run hT hS h1 h2 hl hl'
    have hR := (hT.val x _ hp).2
    generalize hX : a.tmps.getD x undef = X at hR
    have hR' := hR
    cases hR with
    | ptr he =>
      rename_i e
      obtain ⟨xx, hxx, hrel⟩ := hS.rel id e sl he hsl
      obtain ⟨V, hV, hld⟩ := ld_gives (P := P) (w := w) hd hi hvt (.cons hR' .nil) (fun id' h' => by
        simp only [tgt, Option.some.injEq] at h'; subst h'; exact ⟨e, xx, he, hxx, hrel⟩)
      refine ⟨V :: Vs, .cons hV hVs, ?_⟩
      unfold Instr.loadAt at hld
      simp only [Instr.sureAddr, Sem.run_bind, Sem.run_pure, Result.andThen_ok] at hld
      simp only [List.mapM_cons, h2, hX, asAddr, Sem.run_bind, Sem.run_pure, Result.andThen_ok, hld, hr]

def resW : List Value → Value
  | [V] => V
  | Vs => .tuple ⟨Vs⟩
theorem resV_R {ρ : Mp} {l : List AV} {Rv : List Value} (h : Rs ρ l Rv) : R ρ (resV l) (resW Rv) := by
  cases h with
  | nil => exact .tup .nil
  | cons hv hs =>
    cases hs with
    | nil => exact hv
    | cons hv2 hs2 => exact .tup (.cons hv (.cons hv2 hs2))
theorem call_ok (hFk : FOk P G F) {n : Nat} (ih : ∀ nt c s x s', ev F sy n (compC P G nt c) s = some (x, s') → EvoS s.ms s'.ms ∧ Good P G nt n c s x s') : CallOk P G (callStep F sy (ev F sy n)) := by
  have key : ∀ f vs s v s', callStep F sy (ev F sy n) f vs s = some (v, s') → ∃ fn c cf x s1 l, P.funcs[f]? = some fn ∧ fn.body = some c ∧ fn.name ≠ "runtime.NumGoroutine" ∧ compR P fn.results.toList = some cf ∧
      vs.length ≤ fn.ntmps ∧ ev F sy n (compC P G fn.ntmps c) ⟨putArgs .e 0 vs, s⟩ = some (x, s1) ∧ (x = .norm ∨ x = .ret) ∧ allRes s1.tm s1.ms.mem cf = some l ∧ v = resV l ∧ s' = s1.ms := by
    intro f vs s v s' h
    unfold callStep at h
    split at h <;> (try (cases h; done))
    rename_i cf hcf
    obtain ⟨fn, hfn, hcomp⟩ := hFk f cf hcf
    unfold compF at hcomp
    split at hcomp <;> (try (cases hcomp; done))
    rename_i c hbody
    split at hcomp <;> (try (cases hcomp; done))
    rename_i hname
    split at hcomp <;> cases hcomp
    rename_i r hr
    split at h <;> (try (cases h; done))
    rename_i hble
    simp only [T.seq_eq] at h
    split at h <;> (try (cases h; done))
    rename_i x s1 hne hev
    split at h <;> cases h
    rename_i l hl
    refine ⟨fn, c, r, x, s1, l, hfn, hbody, hname, hr, Nat.le_of_ble_eq_true hble, hev, ?_, hl, rfl, rfl⟩
    cases x with
    | norm => exact .inl rfl
    | ret => exact .inr rfl
    | exit id => exact (hne _ rfl).elim
  refine ⟨fun f vs s v s' h => ?_, fun f vs s v s' h hok ρ Vs w hG hR hS hF hB => ?_⟩
  · obtain ⟨fn, c, cf, x, s1, l, _, _, _, _, _, hev, _, _, _, rfl⟩ := key f vs s v s' h
    exact (ih _ _ _ _ _ hev).1
  · obtain ⟨fn, c, cf, x, s1, l, hfn, hbody, hname, hcr, hle, hev, hx, hl, rfl, rfl⟩ := key f vs s v s' h
    refine ⟨fun w => ?_, ?_⟩
    · unfold callFunc
      have hn : (fn.name == "runtime.NumGoroutine") = false := by simpa using hname
      simp only [Sem.run_bind, run_program, Result.andThen_ok, hfn, hn, Bool.false_eq_true, if_false, hbody, Option.isNone_some, Sem.run_pure]
    · obtain ⟨_, g⟩ := ih _ _ _ _ _ hev
      refine calls_of_wp hfn hbody (Holds.wp (n := n) (g hok ρ _ w hG (args_RT hR hle) hS hF hB _ fun a' w' hA => ?_))
      obtain ⟨hd, ρ', hT', hst⟩ := hA
      obtain ⟨Rv, hRv, hrun⟩ := res_run (P := P) (f := fun r => match r with
        | .tmp t => pure (a'.tmps.getD t undef)
        | .cell x t => do loadVar t (← asAddr (a'.tmps.getD x undef))) hT' hst.sim (fun _ => rfl) (fun _ _ => rfl) hcr hl
      have hres : (results fn a'.tmps).run P w' = .ok (resW Rv) w' := by
        unfold results
        rw [Array.mapM_eq_mapM_toList]
        simp only [Sem.run_bind, Sem.run_map]
        refine (congrArg (fun r : Result (List Value) => (r.andThen fun a w' => .ok a.toArray w').andThen fun vs w' => (pure (if h : vs.size = 1 then vs[0] else .tuple vs) : Sem Value).run P w') hrun).trans ?_
        simp only [Result.andThen_ok, Sem.run_pure]
        congr 1
        match Rv with
        | [] => rfl
        | [V] => rfl
        | V :: W :: r => simp [resW]
      have hV : R ρ' (resV l) (resW Rv) := resV_R hRv
      rcases hx with rfl | rfl
      · exact ⟨hd, _, hres, _, rfl, ρ', hV, hst⟩
      · exact ⟨hd, _, hres, _, rfl, ρ', hV, hst⟩

theorem ev_ok (hFk : FOk P G F) : ∀ (n : Nat) nt c s x s', ev F sy n (compC P G nt c) s = some (x, s') → EvoS s.ms s'.ms ∧ Good P G nt n c s x s'
  | 0 => fun nt c s x s' h => by rw [ev_zero] at h; cases h
  | n + 1 => code_ok (call_ok hFk (ev_ok hFk n)) (ev_ok hFk n)

/-- a whole evaluation of a call, nothing there before -/
def evCall (F : Nat → Option CF) (sy : Bool) (hs : List (Nat × Bool)) (n : Nat) (f : FuncId) (vs : List AV) (m : T Slot) (k : Nat) : Option (AV × MS) := callStep F sy (ev F sy n) f vs ⟨m, k, hs, True⟩

/-- THE THEOREM. -/
theorem evCall_ok (hFk : FOk P G F) {hs : List (Nat × Bool)} {n f k : Nat} {vs : List AV} {m : T Slot} {v : AV} {s' : MS} (h : evCall F sy hs n f vs m k = some (v, s')) (hok : s'.ok) {ρ : Mp} {Vs : List Value} {w : World} (hG : GOk G ρ) (hR : Rs ρ vs Vs)
    (hS : Sim ρ m.get w) (hρ : ∀ id, k ≤ id → ρ id = none) (hm : ∀ id, k ≤ id → m.get id = none) :
    Calls P f ⟨Vs⟩ w fun e w' => ∃ V, e = .returned V ∧ ∃ ρ', R ρ' v V ∧ Step ρ m.get k w ρ' s'.mem.get s'.n w' :=
  ((call_ok hFk (ev_ok hFk n)).ok f vs _ v s' h hok ρ Vs w hG hR hS (fun id h1 _ => hρ id h1) (fun id h1 => hm id h1)).2
end
end Ev
end Go.Proofs.Ytgaidloicmkdaaa
