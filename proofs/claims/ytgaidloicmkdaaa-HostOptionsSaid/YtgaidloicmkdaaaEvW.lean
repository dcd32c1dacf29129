/-
  An evaluator over plain data (23): a law evaluated in two pieces: up to a place of its text, and from there on, of what was there only the arguments known. Of no program. No condition.
-/
import Derived.Test.YtgaidloicmkdaaaEvU
namespace Go.Proofs.Ytgaidloicmkdaaa
namespace Ev
variable [E : Inhabited EnvT]
open Go.RowKit
set_option linter.unusedVariables false
set_option linter.unusedSectionVars false
set_option linter.unusedSimpArgs false

/-! ### a body as a row of pieces -/
def flat : Code → List Code
  | .seq a b => flat a ++ flat b
  | c => [c]
def wpL (P : Program) : List Code → (Exit → Act → World → Prop) → Act → World → Prop
  | [], Q, a, w => Q .normal a w
  | c :: r, Q, a, w => c.wp P (Exit.then (wpL P r Q) Q) a w
theorem wpL_mono {P : Program} : ∀ {l : List Code} {Q Q' : Exit → Act → World → Prop} {a : Act} {w : World}, (∀ e a w, Q e a w → Q' e a w) → wpL P l Q a w → wpL P l Q' a w
  | [], _, _, _, _, h, hw => h _ _ _ hw
  | c :: r, Q, Q', a, w, h, hw => Code.wp_mono (fun e a w he => by
    cases e with
    | normal => exact wpL_mono h he
    | _ => exact h _ _ _ he) hw
theorem wpL_append {P : Program} : ∀ {l r : List Code} {Q : Exit → Act → World → Prop} {a : Act} {w : World}, wpL P (l ++ r) Q a w → wpL P l (Exit.then (wpL P r Q) Q) a w
  | [], _, _, _, _, h => h
  | c :: l, r, Q, a, w, h => Code.wp_mono (fun e a w he => by
    cases e with
    | normal => exact wpL_append (l := l) he
    | _ => exact he) h
theorem wpL_join {P : Program} : ∀ {l r : List Code} {Q : Exit → Act → World → Prop} {a : Act} {w : World}, wpL P l (Exit.then (wpL P r Q) Q) a w → wpL P (l ++ r) Q a w
  | [], _, _, _, _, h => h
  | c :: l, r, Q, a, w, h => Code.wp_mono (fun e a w he => by
    cases e with
    | normal => exact wpL_join (l := l) he
    | _ => exact he) h
theorem wpL_one {P : Program} {c : Code} {Q : Exit → Act → World → Prop} {a : Act} {w : World} (h : wpL P [c] Q a w) : c.wp P Q a w :=
  Code.wp_mono (fun e a w he => by cases e <;> exact he) h
theorem flat_wp {P : Program} : ∀ (c : Code) {Q : Exit → Act → World → Prop} {a : Act} {w : World}, wpL P (flat c) Q a w → c.wp P Q a w
  | .seq x y, Q, a, w, h => wp_seq (Code.wp_mono (fun e a w he => by
      cases e with
      | normal => exact flat_wp y he
      | _ => exact he) (flat_wp x (wpL_append (l := flat x) (r := flat y) h)))
  | .skip, _, _, _, h => wpL_one h
  | .region .., _, _, _, h => wpL_one h
  | .cond .., _, _, _, h => wpL_one h
  | .block .., _, _, _, h => wpL_one h
  | .loop _, _, _, _, h => wpL_one h
  | .exit _, _, _, _, h => wpL_one h
  | .goto _, _, _, _, h => wpL_one h
  | .label _, _, _, _, h => wpL_one h
  | .ret, _, _, _, h => wpL_one h
  | .refuse _, _, _, _, h => wpL_one h
  | .rangeFunc .., _, _, _, h => wpL_one h
  | .scope _, _, _, _, h => wpL_one h

/-! ### pieces evaluated -/
def evL (ih : CC → CS → Option (Ex × CS)) : List CC → CS → Option (Ex × CS)
  | [], s => some (.norm, s)
  | c :: r, s => match ih c s with
    | some (.norm, s) => evL ih r s
    | some (x, s) => some (x, s)
    | none => none
section
variable {P : Program} {G : Nat → Option Nat} {F : Nat → Option CF}
def GoodL (P : Program) (G : Nat → Option Nat) (nt mask n : Nat) (l : List Code) (s : CS) (x : Ex) (s' : CS) : Prop := s'.ms.ok → TM.Ok mask s.tm → ∀ (ρ : Mp) (a : Act) (w : World), GOk G ρ → RT ρ nt s.tm a → Sim ρ s.ms.mem.get w → Free ρ s.ms.n s'.ms.n → Bd s.ms →
  ∀ Q : Exit → Act → World → Prop, (∀ a' w', At G nt ρ s.ms w a.defers s' a' w' → Q x.to a' w') → wpL P l Q a w
theorem evL_ok (hFk : FOk P G F) {n nt mask : Nat} : ∀ {l : List Code} {s : CS} {x : Ex} {s' : CS}, evL (ev F false n) (l.map (compC P G nt mask)) s = some (x, s') → EvoS s.ms s'.ms ∧ GoodL P G nt mask n l s x s'
  | [], s, x, s', h => by
    simp only [List.map_nil, evL, Option.some.injEq, Prod.mk.injEq] at h
    obtain ⟨rfl, rfl⟩ := h
    exact ⟨EvoS.refl _, fun hok h0 ρ a w hG hT hS hF hB Q hQ => hQ a w ⟨rfl, ρ, hT, Step.refl hS⟩⟩
  | c :: r, s, x, s', h => by
    simp only [List.map_cons, evL] at h
    split at h
    · rename_i s1 h1
      obtain ⟨e1, g1⟩ := ev_ok hFk n nt mask c s .norm s1 h1
      obtain ⟨e2, g2⟩ := evL_ok hFk (l := r) h
      refine ⟨e1.trans e2, fun hok h0 ρ a w hG hT hS hF hB Q hQ => ?_⟩
      have hle1 := e1.evo.le
      have hle2 := e2.evo.le
      refine Holds.wp (n := n) (g1 (e2.ok hok) h0 ρ a w hG hT hS (fun id h1 h2 => hF id h1 (by omega)) hB _ fun a' w' hA => ?_)
      obtain ⟨hd, ρ1, hT1, hst⟩ := hA
      show wpL P r Q a' w'
      refine g2 hok (ev_mask n _ _ _ _ h1 h0) ρ1 a' w' (hG.ext hst.ext) hT1 hst.sim (free_next hF hst) (e1.bd hB) Q fun a'' w'' hA' => ?_
      rw [hd] at hA'
      exact hQ a'' w'' (At.next hst hA')
    · rename_i hne h1
      cases h
      obtain ⟨e1, g1⟩ := ev_ok hFk n nt mask c s x s' h1
      refine ⟨e1, fun hok h0 ρ a w hG hT hS hF hB Q hQ => ?_⟩
      refine Holds.wp (n := n) (g1 hok h0 ρ a w hG hT hS hF hB _ fun a' w' hA => ?_)
      cases x with
      | norm => exact (hne rfl).elim
      | exit id => exact hQ a' w' hA
      | ret => exact hQ a' w' hA
    · cases h

end
/-! ### the same under another list of facts -/
section
variable {E1 E2 : Inhabited EnvT}
theorem R.env (hi : E1.default.i = E2.default.i) (hv : E1.default.v = E2.default.v) {ρ : Mp} {v : AV} {V : Value} (h : @R E1 ρ v V) : @R E2 ρ v V :=
  @R.rec E1 ρ (fun v V _ => @R E2 ρ v V) (fun v V _ => @Rs E2 ρ v V) (fun b => @R.bool E2 ρ b) (fun k n => @R.int E2 ρ k n) (fun s => @R.str E2 ρ s) (@R.nilp E2 ρ) (fun h => @R.ptr E2 ρ _ _ _ h) (@R.nils E2 ρ) (fun h hl => @R.sl E2 ρ _ _ _ _ _ h hl) (fun h => @R.sl0 E2 ρ _ _ _ _ _ h) (@R.nilm E2 ρ) (fun h => @R.map E2 ρ _ _ h)
    (fun f _ _ _ _ _ _ h1 h2 => @R.fn E2 ρ f _ _ _ _ h1 h2) (fun h => @R.yield E2 ρ _ _ h) (@R.nilf E2 ρ) (fun t _ _ _ h => @R.iface E2 ρ t _ _ h) (@R.nili E2 ρ) (fun _ h => @R.agg E2 ρ _ _ h) (fun _ h => @R.tup E2 ρ _ _ h) (fun k e => by rw [hi]; exact @R.sx E2 ρ k e) (fun i => by rw [hv]; exact @R.ov E2 ρ i)
    (@Rs.nil E2 ρ) (fun _ _ h1 h2 => @Rs.cons E2 ρ _ _ _ _ h1 h2) v V h
theorem Rs.env (hi : E1.default.i = E2.default.i) (hv : E1.default.v = E2.default.v) {ρ : Mp} {v : List AV} {V : List Value} (h : @Rs E1 ρ v V) : @Rs E2 ρ v V :=
  @Rs.rec E1 ρ (fun v V _ => @R E2 ρ v V) (fun v V _ => @Rs E2 ρ v V) (fun b => @R.bool E2 ρ b) (fun k n => @R.int E2 ρ k n) (fun s => @R.str E2 ρ s) (@R.nilp E2 ρ) (fun h => @R.ptr E2 ρ _ _ _ h) (@R.nils E2 ρ) (fun h hl => @R.sl E2 ρ _ _ _ _ _ h hl) (fun h => @R.sl0 E2 ρ _ _ _ _ _ h) (@R.nilm E2 ρ) (fun h => @R.map E2 ρ _ _ h)
    (fun f _ _ _ _ _ _ h1 h2 => @R.fn E2 ρ f _ _ _ _ h1 h2) (fun h => @R.yield E2 ρ _ _ h) (@R.nilf E2 ρ) (fun t _ _ _ h => @R.iface E2 ρ t _ _ h) (@R.nili E2 ρ) (fun _ h => @R.agg E2 ρ _ _ h) (fun _ h => @R.tup E2 ρ _ _ h) (fun k e => by rw [hi]; exact @R.sx E2 ρ k e) (fun i => by rw [hv]; exact @R.ov E2 ρ i)
    (@Rs.nil E2 ρ) (fun _ _ h1 h2 => @Rs.cons E2 ρ _ _ _ _ h1 h2) v V h
theorem RT.env (hi : E1.default.i = E2.default.i) (hv : E1.default.v = E2.default.v) {ρ : Mp} {nt : Nat} {tm : TM} {a : Act} (h : @RT E1 ρ nt tm a) : @RT E2 ρ nt tm a :=
  @RT.mk E2 ρ nt tm a (@RT.size E1 ρ nt tm a h) (fun t v hv2 => ⟨(@RT.val E1 ρ nt tm a h t v hv2).1, R.env hi hv (@RT.val E1 ρ nt tm a h t v hv2).2⟩)
end
section
variable {P : Program} {G : Nat → Option Nat} {F : Nat → Option CF}

/-! ### what is known at the cut: temporaries, rows of memory -/
def midT : List (Nat × AV) → T AV
  | [] => .e
  | (t, v) :: r => (midT r).set t v
def midM : List (Nat × List AV) → T Slot
  | [] => .e
  | (id, cs) :: r => (midM r).set id ⟨.row cs false, 0, true⟩
theorem midT_get : ∀ {l : List (Nat × AV)} {t : Nat} {v : AV}, (midT l).get t = some v → (t, v) ∈ l
  | [], t, v, h => by simp only [midT, T.get] at h; cases h
  | (u, x) :: r, t, v, h => by
    simp only [midT] at h
    rw [T.get_set] at h
    split at h
    · rename_i e; cases h; subst e; exact List.mem_cons_self ..
    · exact List.mem_cons_of_mem _ (midT_get h)
theorem midM_get : ∀ {l : List (Nat × List AV)} {id : Nat} {sl : Slot}, (midM l).get id = some sl → ∃ cs, (id, cs) ∈ l ∧ sl = ⟨.row cs false, 0, true⟩
  | [], t, v, h => by simp only [midM, T.get] at h; cases h
  | (u, x) :: r, t, v, h => by
    simp only [midM] at h
    rw [T.get_set] at h
    split at h
    · rename_i e; cases h; subst e; exact ⟨x, List.mem_cons_self .., rfl⟩
    · obtain ⟨cs, h1, h2⟩ := midM_get h; exact ⟨cs, List.mem_cons_of_mem _ h1, h2⟩
def hasId : List (Nat × List AV) → Nat → Bool
  | [], _ => false
  | (u, _) :: r, id => Nat.beq u id || hasId r id
theorem hasId_mem : ∀ {l : List (Nat × List AV)} {id : Nat}, hasId l id = true → ∃ cs, (id, cs) ∈ l
  | [], _, h => by simp [hasId] at h
  | (u, x) :: r, id, h => by
    simp only [hasId, Bool.or_eq_true] at h
    rcases h with h | h
    · exact ⟨x, by rw [Nat.eq_of_beq_eq_true h]; exact List.mem_cons_self ..⟩
    · obtain ⟨cs, hc⟩ := hasId_mem h; exact ⟨cs, List.mem_cons_of_mem _ hc⟩
theorem midM_has : ∀ {l : List (Nat × List AV)} {id : Nat}, hasId l id = true → ∃ sl, (midM l).get id = some sl
  | [], _, h => by simp [hasId] at h
  | (u, x) :: r, id, h => by
    simp only [hasId, Bool.or_eq_true] at h
    simp only [midM]
    rw [T.get_set]
    split
    · exact ⟨_, rfl⟩
    · rename_i hne
      rcases h with h | h
      · exact absurd (Nat.eq_of_beq_eq_true h).symm hne
      · exact midM_has h
/-- scalars, of these objects alone -/
def low1 (n : List (Nat × List AV)) (a : AV) : Bool := match a with
  | .bool _ | .int _ _ | .sx _ _ | .ov _ | .nils | .nilp | .nilm => true
  | .ptr id _ => hasId n id
  | _ => false
def lowL (n : List (Nat × List AV)) : List AV → Bool
  | [] => true
  | a :: r => low1 n a && lowL n r
theorem low1_R {n : List (Nat × List AV)} {ρ ρ2 : Mp} (he : ∀ id e, ρ id = some e → hasId n id = true → ρ2 id = some e) {a : AV} {V : Value} (h : low1 n a = true) (hR : R ρ a V) : R ρ2 a V := by
  cases a <;> simp only [low1, Bool.false_eq_true] at h
  case bool => cases hR; exact .bool _
  case int => cases hR; exact .int _ _
  case sx => cases hR; exact .sx _ _
  case ov => cases hR; exact .ov _
  case nils => cases hR; exact .nils
  case nilp => cases hR; exact .nilp
  case nilm => cases hR; exact .nilm
  case ptr id off =>
    cases hR with
    | ptr hx => exact .ptr (he _ _ hx h)
theorem lowL_R {n : List (Nat × List AV)} {ρ ρ2 : Mp} (he : ∀ id e, ρ id = some e → hasId n id = true → ρ2 id = some e) : ∀ {a : List AV} {V : List Value}, lowL n a = true → Rs ρ a V → Rs ρ2 a V
  | [], _, _, hR => by cases hR; exact .nil
  | a :: r, _, h, hR => by
    simp only [lowL, Bool.and_eq_true] at h
    cases hR with
    | cons h1 h2 => exact .cons (low1_R he h.1 h1) (lowL_R he h.2 h2)
def subT (n : List (Nat × List AV)) (tm : TM) : List (Nat × AV) → Bool
  | [] => true
  | (t, v) :: r => match tm.get t with
    | some u => beq1 v u && low1 n v && subT n tm r
    | none => false
theorem subT_get {n : List (Nat × List AV)} {tm : TM} : ∀ {l : List (Nat × AV)}, subT n tm l = true → ∀ t v, (t, v) ∈ l → tm.get t = some v ∧ low1 n v = true
  | [], _, t, v, hm => by cases hm
  | (u, x) :: r, h, t, v, hm => by
    simp only [subT] at h
    split at h
    · rename_i y hy
      simp only [Bool.and_eq_true] at h
      rcases List.mem_cons.1 hm with e | hm
      · cases e; exact ⟨by rw [hy, beq1_eq h.1.1], h.1.2⟩
      · exact subT_get h.2 t v hm
    · cases h
def subM (n : List (Nat × List AV)) (m : T Slot) : List (Nat × List AV) → Bool
  | [] => true
  | (id, cs) :: r => match m.get id with
    | some ⟨.row cs' false, _, true⟩ => beqR cs cs' && lowL n cs && subM n m r
    | _ => false
theorem subM_get {n : List (Nat × List AV)} {m : T Slot} : ∀ {l : List (Nat × List AV)}, subM n m l = true → ∀ id cs, (id, cs) ∈ l → (∃ st, m.get id = some ⟨.row cs false, st, true⟩) ∧ lowL n cs = true
  | [], _, t, v, hm => by cases hm
  | (u, x) :: r, h, t, v, hm => by
    simp only [subM] at h
    split at h
    · rename_i cs' st hy
      simp only [Bool.and_eq_true] at h
      rcases List.mem_cons.1 hm with e | hm
      · cases e
        exact ⟨⟨st, by rw [hy, beqR_eq h.1.1]⟩, h.1.2⟩
      · exact subM_get h.2 t v hm
    · cases h

def ms0 : MS := ⟨.e, 0, [], True⟩
def onlyIf (b : Bool) (p : Prop) : Prop := match b with
  | true => p
  | false => False
/-- the first pieces, from the arguments on, end by going on, and what is to be known is so -/
def preR (ts : List (Nat × AV)) (os : List (Nat × List AV)) (r : Option (Ex × CS)) : Prop := match r with
  | some (.norm, s) => onlyIf (subT os s.tm ts && subM os s.ms.mem os) s.ms.ok
  | _ => False
/-- the other pieces end with 'true' -/
def sufR (res : List CR) (r : Option (Ex × CS)) : Prop := match r with
  | some (.exit _, _) => False
  | some (_, s) => match allRes s.tm s.ms.mem res with
    | some [.bool true] => s.ms.ok
    | _ => False
  | none => False
def mskOf (fn : Func) : Nat := Nat.sub (Nat.shiftLeft 1 fn.ntmps) 1
def pieceP (P : Program) (fn : Func) (k : Nat) : List CC := match fn.body with
  | some c => ((flat c).take k).map (compC P noG fn.ntmps (Nat.sub (Nat.shiftLeft 1 fn.ntmps) 1))
  | none => []
def pieceS (P : Program) (fn : Func) (k : Nat) : List CC := match fn.body with
  | some c => ((flat c).drop k).map (compC P noG fn.ntmps (Nat.sub (Nat.shiftLeft 1 fn.ntmps) 1))
  | none => []
def fitB (fn : Func) (vs : List AV) : Bool := Nat.ble vs.length fn.ntmps && allBits (mskOf fn) vs.length
def bitsB (mask : Nat) : List (Nat × AV) → Bool
  | [] => true
  | (t, _) :: r => Nat.testBit mask t && bitsB mask r
theorem bitsB_get {mask : Nat} : ∀ {l : List (Nat × AV)}, bitsB mask l = true → ∀ t v, (t, v) ∈ l → Nat.testBit mask t = true
  | [], _, t, v, hm => by cases hm
  | (u, x) :: r, h, t, v, hm => by
    simp only [bitsB, Bool.and_eq_true] at h
    rcases List.mem_cons.1 hm with e | hm
    · cases e; exact h.1
    · exact bitsB_get h.2 t v hm
def lowM (n : Nat) : List (Nat × List AV) → Bool
  | [] => true
  | (id, _) :: r => Nat.blt id n && lowM n r
theorem lowM_get {n : Nat} : ∀ {l : List (Nat × List AV)}, lowM n l = true → ∀ id cs, (id, cs) ∈ l → id < n
  | [], _, t, v, hm => by cases hm
  | (u, x) :: r, h, t, v, hm => by
    simp only [lowM, Bool.and_eq_true] at h
    rcases List.mem_cons.1 hm with e | hm
    · cases e; have := h.1; unfold Nat.blt at this; have := Nat.le_of_ble_eq_true this; omega
    · exact lowM_get h.2 t v hm
noncomputable def lawPre (P : Program) (X : List (Nat × XK)) (n : Nat) (f : FuncId) (k : Nat) (vs : List AV) (ts : List (Nat × AV)) (os : List (Nat × List AV)) : Prop := match P.funcs[f]? with
  | some fn => onlyIf (fitB fn vs) (preR ts os (evL (Fa.evl (fofX P noG X) n) (pieceP P fn k) ⟨⟨putArgs .e 0 vs, []⟩, ms0⟩))
  | none => False
noncomputable def lawSuf (P : Program) (X : List (Nat × XK)) (n : Nat) (f : FuncId) (k : Nat) (n2 : Nat) (ts : List (Nat × AV)) (os : List (Nat × List AV)) : Prop := match P.funcs[f]? with
  | some fn => match compR P fn.results.toList with
    | some res => onlyIf (bitsB (mskOf fn) ts && lowM n2 os) (sufR res (evL (Fa.evl (fofX P noG X) n) (pieceS P fn k) ⟨⟨midT ts, []⟩, ⟨midM os, n2, [], True⟩⟩))
    | none => False
  | none => False
/-- the world and the frame at the cut -/
def MidL (fn : Func) (w : World) (ts : List (Nat × AV)) (os : List (Nat × List AV)) (a : Act) (w' : World) : Prop :=
  a.defers = [] ∧ Below w.heap.size w w' ∧ ∃ ρ2 : Mp, RT ρ2 fn.ntmps ⟨midT ts, []⟩ a ∧ Sim ρ2 (midM os).get w' ∧ (∀ id, hasId os id = false → ρ2 id = none) ∧ (∀ b, b < w.heap.size → ¬ Own ρ2 (midM os).get b)

theorem sim0 {w : World} (ho : ∀ b, b < E.default.base → w.heap[b]? = E.default.h0 b) (hb : E.default.base ≤ w.heap.size) : Sim (fun _ => none) (T.e : T Slot).get w :=
  ⟨fun id e s h => (by cases h), fun id id' e e' h => (by cases h), fun id e h => (by cases h), ho, hb, fun id e s h => (by cases h)⟩
theorem pre_calls {X : List (Nat × XK)} {n : Nat} {f : FuncId} {k : Nat} {vs : List AV} {Vs : List Value} {ts : List (Nat × AV)} {os : List (Nat × List AV)} {w : World} {R : Ending → World → Prop} (hX : ∀ f k, xlk X f = some k → XGood P noG f k) (h : lawPre P X n f k vs ts os = True) (hR : Rs (fun _ => none) vs Vs)
    (hasBody : ((P.funcs[f]?).bind (·.body)).isSome = true) (ho : ∀ b, b < E.default.base → w.heap[b]? = E.default.h0 b) (hb : E.default.base ≤ w.heap.size)
    (hnext : ∀ fn c a' w', P.funcs[f]? = some fn → fn.body = some c → MidL fn w ts os a' w' → wpL P ((flat c).drop k) (bodyPost P fn R) a' w') : Calls P f ⟨Vs⟩ w R := by
  have h' : lawPre P X n f k vs ts os := by rw [h]; trivial
  unfold lawPre at h'
  split at h' <;> (try exact h'.elim)
  rename_i fn hfn
  unfold onlyIf at h'
  split at h' <;> (try exact h'.elim)
  rename_i hfit
  simp only [fitB, Bool.and_eq_true] at hfit
  have hle := Nat.le_of_ble_eq_true hfit.1
  cases hbody : fn.body with
  | none =>
    exfalso
    have := hasBody
    rw [hfn] at this
    simp [hbody] at this
  | some c =>
    refine calls_of_wp hfn hbody (flat_wp c ?_)
    have e : flat c = (flat c).take k ++ (flat c).drop k := (List.take_append_drop k (flat c)).symm
    rw [e]
    refine wpL_join ?_
    clear e
    simp only [pieceP, hbody] at h'
    rw [Fa.evl_eq] at h'
    unfold preR at h'
    split at h' <;> (try exact h'.elim)
    rename_i s1 hev
    unfold onlyIf at h'
    split at h' <;> (try exact h'.elim)
    rename_i hkept
    have hok := h'
    simp only [Bool.and_eq_true] at hkept
    obtain ⟨_, g⟩ := evL_ok (fofX_ok hX) (l := (flat c).take k) hev
    refine g hok (args_Ok hfit.2) (fun _ => none) _ w (fun g id h => (by cases h)) (args_RT hR hle) (sim0 ho hb) (fun _ _ _ => rfl) (fun _ _ => rfl) _ fun a' w' hA => ?_
    obtain ⟨hd, ρ', hT, hst⟩ := hA
    refine hnext fn c a' w' hfn hbody ⟨hd, ⟨hst.rest.1, hst.rest.2.1, hst.rest.2.2, hst.size, fun b hb => hst.frame b hb fun ⟨id, e, s, h, _⟩ => (by cases h)⟩, ?_⟩
    have he : ∀ id e, ρ' id = some e → hasId os id = true → (fun id => if hasId os id = true then ρ' id else none : Mp) id = some e := fun id e h1 h2 => by simp only [h2, if_true]; exact h1
    have hb2 : ∀ id e, (fun id => if hasId os id = true then ρ' id else none : Mp) id = some e → ρ' id = some e ∧ hasId os id = true := fun id e h1 => by
      simp only at h1
      split at h1
      · exact ⟨h1, by assumption⟩
      · cases h1
    have hsl : ∀ id, hasId os id = true → ∃ cs st, (midM os).get id = some ⟨.row cs false, 0, true⟩ ∧ s1.ms.mem.get id = some ⟨.row cs false, st, true⟩ ∧ lowL os cs = true := fun id hid => by
      obtain ⟨sl, h1⟩ := midM_has hid
      obtain ⟨cs, hm, rfl⟩ := midM_get h1
      obtain ⟨⟨st, h3⟩, h4⟩ := subM_get hkept.2 id cs hm
      exact ⟨cs, st, h1, h3, h4⟩
    refine ⟨fun id => if hasId os id = true then ρ' id else none, ⟨hT.size, fun t v hv2 => ?_⟩, ⟨fun id e s h1 h2 => ?_, fun id id' e e' h1 h2 h3 h4 h5 => ?_, fun id e h1 => hst.sim.lt id e (hb2 id e h1).1, hst.sim.old, hst.sim.sz, fun id e s h1 h2 h3 h4 => ?_⟩, fun id h1 => ?_, fun b hb1 ⟨id, e, s, h1, h2, h3, h4, h5⟩ => ?_⟩
    · obtain ⟨h1, h2⟩ := subT_get hkept.1 t v (midT_get (show (midT ts).get t = some v from hv2))
      obtain ⟨h3, h4⟩ := hT.val t v h1
      exact ⟨h3, low1_R he h2 h4⟩
    · obtain ⟨cs, st, h3, h4, h5⟩ := hsl id (hb2 id e h1).2
      rw [h3] at h2; cases h2
      obtain ⟨x, hx, c0, el, fz, Cs, h6, h7, h8⟩ := hst.sim.rel id e _ (hb2 id e h1).1 h4
      exact ⟨x, hx, c0, el, fz, Cs, h6, lowL_R he h5 h7, h8⟩
    · obtain ⟨cs, st, _, h6, _⟩ := hsl id (hb2 id e h1).2
      obtain ⟨cs', st', _, h7, _⟩ := hsl id' (hb2 id' e' h2).2
      exact hst.sim.inj id id' e e' (hb2 _ _ h1).1 (hb2 _ _ h2).1 h3 (fun s hs => by rw [h6] at hs; cases hs; simp) (fun s hs => by rw [h7] at hs; cases hs; simp)
    · obtain ⟨cs, st, _, h6, _⟩ := hsl id (hb2 id e h1).2
      exact hst.sim.hi id e _ (hb2 id e h1).1 h6 rfl (by simp)
    · simp only
      rw [h1]; rfl
    · obtain ⟨cs, st, _, h6, _⟩ := hsl id (hb2 id e h1).2
      obtain ⟨_, _, _, h7, _⟩ := hst.own b hb1 ⟨id, e, _, (hb2 id e h1).1, h2, h6, rfl, by simp⟩
      cases h7
/-- what is known at the cut, under another list of facts -/
theorem Sim.env {E1 E2 : Inhabited EnvT} (hi : E1.default.i = E2.default.i) (hv : E1.default.v = E2.default.v) (hb : E1.default.base = E2.default.base) (hh : E1.default.h0 = E2.default.h0) {ρ : Mp} {os : List (Nat × List AV)} {w' : World} (h4 : @Sim E1 ρ (midM os).get w') : @Sim E2 ρ (midM os).get w' := by
  obtain ⟨g1, g2, g3, g4, g5, g6⟩ := h4
  refine @Sim.mk E2 _ _ _ (fun id e s k1 k2 => ?_) g2 g3 (by rw [← hb, ← hh]; exact g4) (by rw [← hb]; exact g5) (by rw [← hb]; exact g6)
  obtain ⟨cs, hm, rfl⟩ := midM_get k2
  obtain ⟨x, hx, c0, el, fz, Cs, k3, k4, k5⟩ := g1 id e _ k1 k2
  exact ⟨x, hx, c0, el, fz, Cs, k3, Rs.env hi hv k4, k5⟩
theorem MidL.env {E1 E2 : Inhabited EnvT} (hi : E1.default.i = E2.default.i) (hv : E1.default.v = E2.default.v) (hb : E1.default.base = E2.default.base) (hh : E1.default.h0 = E2.default.h0) {fn : Func} {w : World} {ts : List (Nat × AV)} {os : List (Nat × List AV)} {a : Act} {w' : World}
    (h : @MidL E1 fn w ts os a w') : @MidL E2 fn w ts os a w' := by
  obtain ⟨h1, h2, ρ2, h3, h4, h5, h6⟩ := h
  exact ⟨h1, h2, ρ2, RT.env hi hv h3, Sim.env hi hv hb hh h4, h5, h6⟩
theorem suf_wp {X : List (Nat × XK)} {n : Nat} {f : FuncId} {k : Nat} {n2 : Nat} {ts : List (Nat × AV)} {os : List (Nat × List AV)} {w : World} (hX : ∀ f k, xlk X f = some k → XGood P noG f k) (h : lawSuf P X n f k n2 ts os = True)
    {fn : Func} {c : Code} {a' : Act} {w' : World} (hfn : P.funcs[f]? = some fn) (hbody : fn.body = some c) (hM : MidL fn w ts os a' w') :
    wpL P ((flat c).drop k) (bodyPost P fn fun e w' => e = .returned (.bool true) ∧ Below w.heap.size w w') a' w' := by
  have h' : lawSuf P X n f k n2 ts os := by rw [h]; trivial
  unfold lawSuf at h'
  simp only [hfn] at h'
  split at h' <;> (try exact h'.elim)
  rename_i res hres
  unfold onlyIf at h'
  split at h' <;> (try exact h'.elim)
  rename_i hfit
  simp only [Bool.and_eq_true] at hfit
  simp only [pieceS, hbody] at h'
  rw [Fa.evl_eq] at h'
  unfold sufR at h'
  split at h' <;> (try exact h'.elim)
  rename_i x s1 hne hev
  split at h' <;> (try exact h'.elim)
  rename_i hl
  obtain ⟨hd0, hbl0, ρ2, hT0, hS0, hρ, hown⟩ := hM
  obtain ⟨_, g⟩ := evL_ok (fofX_ok hX) (l := (flat c).drop k) hev
  have hlow : ∀ id, n2 ≤ id → hasId os id = false := fun id hid => by
    cases hh : hasId os id with
    | false => rfl
    | true => obtain ⟨cs, hm⟩ := hasId_mem hh; have := lowM_get hfit.2 id cs hm; omega
  refine g h' (fun t v hv => bitsB_get hfit.1 t v (midT_get (show (midT ts).get t = some v from hv))) ρ2 a' w' (fun g id h => (by cases h)) hT0 hS0 (fun id h1 _ => hρ id (hlow id h1)) (fun id h1 => by
    cases hm : (midM os).get id with
    | none => rfl
    | some sl =>
      obtain ⟨cs, hmm, _⟩ := midM_get hm
      have := lowM_get hfit.2 id cs hmm
      simp only [] at h1
      omega) _ fun a'' w'' hA => ?_
  obtain ⟨hd, ρ', hT', hst⟩ := hA
  have hd' : a''.defers = [] := hd.trans hd0
  have hbl : Below w.heap.size w w'' :=
    ⟨hst.rest.1.trans hbl0.os, hst.rest.2.1.trans hbl0.tape, hst.rest.2.2.trans hbl0.output, Nat.le_trans hbl0.size hst.size, fun b hb => (hst.frame b (Nat.lt_of_lt_of_le hb hbl0.size) (hown b hb)).trans (hbl0.block b hb)⟩
  obtain ⟨Rv, hRv, hrun⟩ := res_run (P := P) (f := fun r => match r with
    | .tmp t => pure (a''.tmps.getD t undef)
    | .cell x t => do loadVar t (← asAddr (a''.tmps.getD x undef))) hT' hst.sim (fun _ => rfl) (fun _ _ => rfl) hres hl
  have hresv : (results fn a''.tmps).run P w'' = .ok (resW Rv) w'' := by
    unfold results
    rw [Array.mapM_eq_mapM_toList]
    simp only [Sem.run_bind, Sem.run_map]
    refine (congrArg (fun r : Result (List Value) => (r.andThen fun a w' => .ok a.toArray w').andThen fun vs w' => (pure (if h : vs.size = 1 then vs[0] else .tuple vs) : Sem Value).run P w') hrun).trans ?_
    simp only [Result.andThen_ok, Sem.run_pure]
    congr 1
    match Rv with
    | [] => rfl
    | [V] => rfl
    | V :: W :: r => simp [resW]
  have hV : R ρ' (resV [.bool true]) (resW Rv) := resV_R hRv
  have hVt : resW Rv = .bool true := by
    generalize resW Rv = Z at hV
    cases hV
    rfl
  rw [hVt] at hresv
  cases x with
  | norm => exact ⟨hd', _, hresv, rfl, hbl⟩
  | ret => exact ⟨hd', _, hresv, rfl, hbl⟩
  | exit id => exact (hne id rfl).elim
end
end Ev
end Go.Proofs.Ytgaidloicmkdaaa
