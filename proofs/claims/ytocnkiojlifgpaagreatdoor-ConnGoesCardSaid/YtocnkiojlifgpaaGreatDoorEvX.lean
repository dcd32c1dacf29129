/-
  An evaluator over plain data (24): calls that are known by the bytes of their first argument; calls that give a new row of bytes. Of no program. No condition.
-/
import Derived.Test.YtocnkiojlifgpaaGreatDoorEvV
namespace Go.Proofs.YtocnkiojlifgpaaGreatDoor
namespace Ev
variable [E : Inhabited EnvT]
set_option linter.unusedVariables false
set_option linter.unusedSectionVars false
set_option linter.unusedSimpArgs false
open Go.RowKit
/-- the bytes of a row, where it begins, how many -/
def RowAt (w : World) (A : Option Addr) (l : List Nat) : Prop := 0 < l.length → ∃ g o, A = some ⟨g, o, none⟩ ∧ ∀ (i x : Nat), l[i]? = some x → w.cell? ⟨g, o + i, none⟩ = some (.int .u8 (x : Int))
theorem bytesN_R {ρ : Mp} : ∀ {cs : List AV} {Cs : List Value} {l : List Nat}, bytesN cs = some l → Rs ρ cs Cs → Cs = l.map (fun (n : Nat) => Value.int .u8 (n : Int)) ∧ (∀ x ∈ l, x < 256) ∧ l.length = cs.length
  | [], Cs, l, h, hR => by cases h; cases hR; exact ⟨rfl, fun x hx => (by cases hx), rfl⟩
  | v :: r, Cs, l, h, hR => by
    cases hR with
    | cons hv hs =>
      simp only [bytesN] at h
      split at h <;> (try (cases h; done))
      rename_i k z
      split at h <;> (try (cases h; done))
      rename_i n l' hk hl
      split at h <;> cases h
      rename_i hn
      cases kin_inj (Nat.eq_of_beq_eq_true hk)
      cases hv
      obtain ⟨h1, h2, h3⟩ := bytesN_R hl hs
      refine ⟨by rw [h1]; rfl, fun x hx => ?_, by simp [h3]⟩
      rcases List.mem_cons.1 hx with rfl | hx
      · unfold Nat.blt at hn; have := Nat.le_of_ble_eq_true hn; omega
      · exact h2 x hx
variable {P : Program} {G : Nat → Option Nat}
theorem bt_good {f : FuncId} {l : List (List Nat × List AV × AV)} (hent : ∀ args w, (callFunc f args).run P w = .ok (.enter f args) w)
    (h : ∀ b a v, (b, a, v) ∈ l → (∀ x ∈ b, x < 256) → ∀ (ρ : Mp) (Vs : List Value) (w : World), Rs ρ a Vs → (∀ b, b < E.default.base → w.heap[b]? = E.default.h0 b) → E.default.base ≤ w.heap.size → ∀ A c, b.length ≤ c → RowAt w A b →
      Calls P f ⟨.slice A b.length c :: Vs⟩ w fun e w' => ∃ V, e = .returned V ∧ R ρ v V ∧ Below w.heap.size w w') : XGood P G f (.bt l) := by
  intro vs s v s' hx hok ρ Vs w hG hR hS hF hB
  unfold execX at hx
  split at hx <;> (try (rename_i hk; cases hk; done)) <;> (try (cases hx; done))
  rename_i l0 x r hk
  cases hk
  split at hx <;> (try (cases hx; done))
  rename_i b hb
  split at hx <;> cases hx
  rename_i hf
  cases hR with
  | cons hv hr =>
    rename_i X Xs
    have key : ∃ A c, X = .slice A b.length c ∧ b.length ≤ c ∧ RowAt w A b ∧ ∀ x ∈ b, x < 256 := by
      unfold rowB at hb
      split at hb
      · cases hb
        cases hv
        exact ⟨none, 0, rfl, Nat.le_refl _, fun h => by simp at h, fun x hx => (by cases hx)⟩
      · split at hb <;> (try (cases hb; done))
        rename_i id off len cap xx cs ext st mu hm
        split at hb <;> (try (cases hb; done))
        rename_i hle
        have hle := Nat.le_of_ble_eq_true hle
        cases hv with
        | sl he hl2 =>
          rename_i e
          obtain ⟨x, hx0, c0, el, fz, Cs, rfl, hRs, hcell, hsz, hlt, _, _⟩ := hS.rel _ _ _ he hm
          obtain ⟨h1, h2, h3⟩ := bytesN_R hb (Rs.take len (Rs.drop off hRs))
          have hlen : b.length = len := by rw [h3]; simp; omega
          refine ⟨_, _, by rw [hlen], by rw [hlen]; exact hl2, fun _ => ⟨e.blk, e.dl + off, rfl, fun i y hy => ?_⟩, h2⟩
          have hil : i < b.length := (List.getElem?_eq_some_iff.1 hy).1
          have h4 := congrArg (fun q : List Value => q[i]?) h1
          simp only [List.getElem?_take, List.getElem?_drop, List.getElem?_map, hy, Option.map_some] at h4
          rw [if_pos (by omega)] at h4
          have h5 := hcell (off + i) (by omega)
          simp only [World.cell?, hx0]
          rw [show e.dl + off + i = e.dl + (off + i) by omega, h5, h4]
          simp
        | sl0 he =>
          simp only [List.take_zero, bytesN, Option.some.injEq] at hb
          subst hb
          exact ⟨_, _, rfl, Nat.le_refl _, fun h => by simp at h, fun x hx => (by cases hx)⟩
      · cases hb
    obtain ⟨A, c, rfl, hc, hrow, hlt⟩ := key
    refine ⟨hent _, (h b r v (findB_mem hf) hlt ρ Xs w hr hS.old hS.sz A c hc hrow).mono fun e w' ⟨V, he, hV, hbl⟩ => ⟨V, he, ρ, hV, Step.below hS hbl⟩⟩
/-- a known call that gives a new row of bytes, and a value that hangs on no memory -/
theorem mk_good {f : FuncId} {l : List (List AV × List Nat × AV)} (hent : ∀ args w, (callFunc f args).run P w = .ok (.enter f args) w)
    (h : ∀ a b v, (a, b, v) ∈ l → ∀ (ρ : Mp) (Vs : List Value) (w : World), Rs ρ a Vs → (∀ b, b < E.default.base → w.heap[b]? = E.default.h0 b) → E.default.base ≤ w.heap.size →
      Calls P f ⟨Vs⟩ w fun e w' => ∃ (g cap : Nat) (el : TypeId) (cs : Array Value) (fz : Nat × Nat) (V : Value), e = .returned (.tuple #[.slice (some ⟨g, 0, none⟩) b.length cap, V]) ∧ (∀ ρ', R ρ' v V) ∧ Below w.heap.size w w' ∧ w.heap.size ≤ g ∧ w'.heap[g]? = some (.cells cs el fz) ∧ FzOk cs.size fz ∧ cs.size = cap ∧ b.length ≤ cap ∧ ∀ (i x : Nat), b[i]? = some x → cs[i]? = some (.int .u8 (x : Int))) : XGood P G f (.mk l) := by
  intro vs s v s' hx hok ρ Vs w hG hR hS hF hB
  simp only [execX] at hx
  split at hx <;> (try (cases hx; done))
  rename_i b u hf
  rw [fL_eq, fN_eq] at hx
  cases hx
  refine ⟨hent _, (h vs b u (findM_mem hf) ρ Vs w hR hS.old hS.sz).mono ?_⟩
  rintro e w' ⟨g, cap, el, cs, fz, V, rfl, hV, hbl, hge, hg, hfz, hcs, hle, hcell⟩
  have hn : ρ s.n = none := hF s.n (Nat.le_refl _) (Nat.lt_succ_self s.n)
  refine ⟨_, rfl, ρ.put s.n ⟨g, 0, cap⟩, .tup (.cons ?_ (.cons (hV _) .nil)), Step.fresh hS hn hbl hge hg (by simp) ?_ _ (fun i => T.get_set _ _ _ _)⟩
  · have := R.sl (ρ := ρ.put s.n ⟨g, 0, cap⟩) (id := s.n) (off := 0) (len := b.length) (cap := .rest 1) (e := ⟨g, 0, cap⟩) (by simp [Mp.put]) (by simpa [ACap.of] using hle)
    simpa [ACap.of] using this
  · refine ⟨cs, el, fz, b.map fun (n : Nat) => Value.int .u8 (n : Int), rfl, Rs_map fun i _ => .int _ _, fun i hi => ?_, by simp [hcs], by simpa using hle, (fun h => by cases h), hfz⟩
    simp only [List.length_map] at hi
    simp only [Nat.zero_add, List.getElem?_map]
    rw [hcell i b[i] (List.getElem?_eq_getElem hi), List.getElem?_eq_getElem hi]
    rfl
end Ev
end Go.Proofs.YtocnkiojlifgpaaGreatDoor
