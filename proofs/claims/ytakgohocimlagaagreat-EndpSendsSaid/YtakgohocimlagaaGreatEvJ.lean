/-
  An evaluator over plain data (10): append: its evaluation is the model's run. Of no program. No condition.
-/
import Derived.Test.YtakgohocimlagaaGreatEvI
namespace Go.Proofs.YtakgohocimlagaaGreat
namespace Ev
variable [E : Inhabited EnvT]
set_option linter.unusedVariables false
set_option linter.unusedSectionVars false
set_option linter.unusedSimpArgs false
open Go.RowKit Go.IntWalk

theorem Sim.of_heap {ρ : Mp} {m : Mem} {w w' : World} (h : w'.heap = w.heap) (hS : Sim ρ m w) : Sim ρ m w' :=
  ⟨fun id e s he hm => by rw [h]; exact hS.rel id e s he hm, hS.inj, fun id e he => by rw [h]; exact hS.lt id e he, fun b hb => by rw [h]; exact hS.old b hb, by rw [h]; exact hS.sz, hS.hi⟩
theorem Step.left {ρ ρ' : Mp} {m m' : Mem} {n n' : Nat} {w w1 w' : World} (h : w1.heap = w.heap) (hsm : Same w w1) (hs : Step ρ m n w1 ρ' m' n' w') : Step ρ m n w ρ' m' n' w' :=
  ⟨hs.ext, hs.new, hs.sim, by rw [← h]; exact hs.size, fun b hb => by rw [← h] at hb ⊢; exact hs.frame b hb, fun b hb => by rw [← h] at hb; exact hs.own b hb, hs.off, hs.le, hsm.trans hs.rest⟩

section
variable {P : Program} {ρ : Mp} {ev : Operand → Value}

structure AppT (P : Program) (ts : Array TypeId) (t0 t1 elem : TypeId) (d1 : TypeDesc) (j : TypeInfo) (Z : Value) : Prop where
  h0 : ts[0]? = some t0
  h1 : ts[1]? = some t1
  hu : P.underlying t0 = some (.slice elem)
  hj : P.info? elem = some j
  hu1 : P.underlying t1 = some d1
  hz : ∀ w, (zeroValue elem).run P w = .ok Z w
  hzs : Z.cells.size = j.size
  hpos : 0 < j.size

/-- what is appended, as the model has it -/
def Adds (P : Program) (d1 : TypeDesc) (j : TypeInfo) (Z : Value) (X : Value) (k : Nat) (Xs : List Value) (w : World) : Prop :=
  (isIntD d1 = false ∧ (∀ w, (Builtin.lenOf X).run P w = .ok k w) ∧ ∀ w', w'.heap = w.heap → (Builtin.firstCells j.size k X).run P w' = .ok ⟨Xs⟩ w') ∨
  (isIntD d1 = true ∧ ∃ kd n, X = .int kd n ∧ (0 ≤ n ∧ n ≤ 281474976710656) ∧ n * (j.bytes : Int) ≤ 281474976710656 ∧ k = n.toNat ∧ Xs = ((Array.range (k * j.size)).map (fun i => Z.cells[i % Z.cells.size]!)).toList)

theorem appX_ok {d1 : TypeDesc} {j : TypeInfo} {Z : Value} {zl : List AV} {x : AV} {X : Value} {m : T Slot} {xs : List AV} {k : Nat} {w : World} (hx : appX j.size zl (isIntD d1) j.bytes x m = some (xs, k, true))
    (hR : R ρ x X) (hS : Sim ρ m.get w) (hzl : Rs ρ zl Z.cells.toList) (hpos : 0 < j.size) (hzs : Z.cells.size = j.size) : xs.length = k * j.size ∧ ∃ Xs, Rs ρ xs Xs ∧ Adds P d1 j Z X k Xs w := by
  have hlz : zl.length = j.size := by have := hzl.length; simp at this; omega
  cases hd : isIntD d1 with
  | true =>
    rw [hd] at hx
    cases x <;> simp only [appX, reduceCtorEq] at hx
    rename_i kd n
    simp only [Option.some.injEq, Prod.mk.injEq, Bool.and_eq_true, decide_eq_true_eq] at hx
    obtain ⟨rfl, rfl, ⟨h1, h2⟩, h3⟩ := hx
    cases hR
    exact ⟨by simp [zrep], _, Rs_zrep hzl (.inl (by omega)), .inr ⟨hd, kd, n, rfl, ⟨h1, h2⟩, h3, rfl, rfl⟩⟩
  | false =>
    rw [hd] at hx
    cases x <;> simp only [appX, reduceCtorEq] at hx
    · rename_i s
      split at hx <;> cases hx
      rename_i hz1
      cases hR
      refine ⟨by simp [hz1], (s.map fun b => Value.int .u8 (b % 256 : Nat)), ?_, .inl ⟨hd, fun w => by simp [Builtin.lenOf, bs_size], fun w' hw' => ?_⟩⟩
      · exact Rs_map fun i hi => .int _ _
      · simp only [Builtin.firstCells, Sem.run_pure]
        congr 1
        apply Array.toList_inj.1
        have : (bs s).extract 0 s.length = bs s := by
          have := bs_extract s 0 s.length
          simp at this; exact this.symm
        rw [this]
        simp [bs, Function.comp_def]
    · simp only [Option.some.injEq, Prod.mk.injEq] at hx
      obtain ⟨rfl, rfl, -⟩ := hx
      cases hR
      exact ⟨by simp, [], .nil, .inl ⟨hd, fun w => by simp [Builtin.lenOf], fun w' hw' => by simp [Builtin.firstCells]⟩⟩
    · rename_i id off len cap
      split at hx <;> (try cases hx)
      rename_i cs ext st mu hm
      split at hx <;> cases hx
      rename_i hb
      have hb := Nat.le_of_ble_eq_true hb
      have hlen : ((cs.drop off).take (k * j.size)).length = k * j.size := by simp; omega
      cases hR with
      | sl he hl =>
        rename_i e
        obtain ⟨x, hx, hrel⟩ := hS.rel id e _ he hm
        obtain ⟨c, el, fz, Cs, rfl, hRs, hcell, hsz, hle, _, _⟩ := hrel
        refine ⟨hlen, _, Rs.take (k * j.size) (Rs.drop off hRs), .inl ⟨hd, fun w => by simp [Builtin.lenOf], fun w' hw' => ?_⟩⟩
        simp only [Builtin.firstCells]
        have hx' : w'.heap[e.blk]? = some (.cells c el fz) := by rw [hw']; exact hx
        rw [loads_at hx' (by omega), row_cells hRs hcell hb]
      | sl0 he =>
        refine ⟨hlen, [], by simp; exact .nil, .inl ⟨hd, fun w => by simp [Builtin.lenOf], fun w' hw' => by simp [Builtin.firstCells]; rfl⟩⟩

section
variable {ts : Array TypeId} {t0 t1 ty elem : TypeId} {d1 : TypeDesc} {j : TypeInfo} {Z : Value} {args : Array Value} {X : Value} {Xs Os : List Value} {k sLen sCap : Nat} {base : Option Addr} {w : World}

theorem app_place_u (hT : AppT P ts t0 t1 elem d1 j Z) (hA : Adds P d1 j Z X k Xs w) (ha : args[0]? = some (.slice base sLen sCap)) (hb : args[1]? = some X) (hle : sLen + k ≤ sCap) :
    (Builtin.append_ ts ty args).run P w = (match base with
      | some a => ((storeCells (a.add (sLen * j.size)) Xs).run P w).andThen fun _ w' => .ok (.slice (some a) (sLen + k) sCap) w'
      | none => .ok (.slice none (sLen + k) sCap) w) := by
  rcases hA with ⟨hd, hl, hf⟩ | ⟨hd, kd, n, rfl, hn, hnb, hk, rfl⟩
  · exact app_place hT.h0 hT.h1 ha hb hT.hu hT.hj hT.hu1 hd hl (hf w rfl) hle
  · exact app_placeZ hT.h0 hT.h1 ha hb hT.hu hT.hj hT.hz hT.hzs hT.hu1 hd hn hnb hk hle
theorem app_new_u (hT : AppT P ts t0 t1 elem d1 j Z) (hA : Adds P d1 j Z X k Xs w) (ha : args[0]? = some (.slice base sLen sCap)) (hb : args[1]? = some X)
    (ho : (Builtin.firstCells j.size sLen (.slice base sLen sCap)).run P w.drew = .ok ⟨Os⟩ w.drew) (hle : ¬ sLen + k ≤ sCap) (hr : roomB (sLen + k) j.bytes = true) :
    ∃ cap, sLen + k ≤ cap ∧ (Builtin.append_ ts ty args).run P w = .ok (.slice (some ⟨w.heap.size, 0, none⟩) (sLen + k) cap)
      (w.drew.alloc (.cells ((⟨Os⟩ : Array Value) ++ ⟨Xs⟩ ++ Builtin.zeroCells Z.cells (cap - (sLen + k))) elem (0, 0))) := by
  rcases hA with ⟨hd, hl, hf⟩ | ⟨hd, kd, n, rfl, hn, hnb, hk, rfl⟩
  · exact app_new hT.h0 hT.h1 ha hb hT.hu hT.hj hT.hz hT.hu1 hd hl (hf w.drew rfl) ho hle hr
  · exact app_newZ hT.h0 hT.h1 ha hb hT.hu hT.hj hT.hz hT.hzs hT.hu1 hd hn hnb hk ho hle hr
end

theorem new_rel {os xs : List AV} {Os Xs : List Value} {Z : Value} {B k cap z : Nat} {el : TypeId} (ho : Rs ρ os Os) (hx : Rs ρ xs Xs) (hl : os.length + xs.length = k * z) (hc : k ≤ cap) (hz : Z.cells.size = z) :
    Rel ρ (.row (os ++ xs) true) ⟨B, 0, cap * z⟩ (.cells ((⟨Os⟩ : Array Value) ++ ⟨Xs⟩ ++ Builtin.zeroCells Z.cells (cap - k)) el (0, 0)) := by
  have h1 := ho.length
  have h2 := hx.length
  have hkz : k * z ≤ cap * z := Nat.mul_le_mul_right _ hc
  have hs : (cap - k) * z = cap * z - k * z := Nat.sub_mul _ _ _
  refine ⟨_, el, (0, 0), Os ++ Xs, rfl, Rs.append ho hx, fun i hi => ?_, ?_, ?_, (fun h => by cases h), .inl rfl⟩
  · simp only [List.length_append] at hi
    rw [← Array.getElem?_toList]
    simp only [Array.toList_append, Nat.zero_add]
    rw [List.getElem?_append_left (by simp; omega)]
  · simp only [Array.size_append, size_zeroCells, hz]
    simp; omega
  · simp; omega

theorem app_gives {ts : Array TypeId} {t0 t1 ty elem : TypeId} {d1 : TypeDesc} {j : TypeInfo} {Z : Value} {zl : List AV} {args : Array Value} {s x : AV} {S X : Value} {m m' : T Slot} {n n' : Nat} {v : AV} {w : World}
    (hT : AppT P ts t0 t1 elem d1 j Z) (hzl : Rs ρ zl Z.cells.toList) (hx : execApp j.size j.bytes zl (isIntD d1) s x m n = some (v, m', n', true)) (hRs : R ρ s S) (hRx : R ρ x X)
    (ha : args[0]? = some S) (hb : args[1]? = some X) (hS : Sim ρ m.get w) (hn : ∀ id, n ≤ id → id < n' → ρ id = none) :
    ∃ ρ' V w', (Builtin.append_ ts ty args).run P w = .ok V w' ∧ R ρ' v V ∧ Step ρ m.get n w ρ' m'.get n' w' := by
  have hpos := hT.hpos
  unfold execApp at hx
  split at hx
  · cases hx
  rename_i xs k q hX
  split at hx
  · cases hx
  rename_i v1 m1 n1 r hx1
  simp only [Option.some.injEq, Prod.mk.injEq, Bool.and_eq_true] at hx
  obtain ⟨rfl, rfl, rfl, hq, hr⟩ := hx
  subst hq; subst hr
  obtain ⟨hxl, Xs, hXs, hA⟩ := appX_ok (P := P) hX hRx hS hzl hpos hT.hzs
  cases s <;> (try (simp only [execApp1, reduceCtorEq] at hx1; done))
  -- onto nil
  · cases hRs
    simp only [execApp1] at hx1
    split at hx1
    · cases hx1
      refine ⟨ρ, _, w, by rw [app_place_u hT hA ha hb (Nat.le_refl _)], .nils, Step.refl hS⟩
    · rename_i hk0
      have hk0 : k ≠ 0 := fun h => hk0 h
      simp only [Option.some.injEq, Prod.mk.injEq] at hx1
      obtain ⟨rfl, rfl, rfl, hroom⟩ := hx1
      obtain ⟨cap, hcap, hrun⟩ := app_new_u (Os := []) hT hA ha hb (by simp [Builtin.firstCells]) (by omega) hroom
      refine ⟨_, _, _, hrun, ?_, Step.left (w := w) (w1 := w.drew) rfl ⟨rfl, rfl, rfl⟩ (Step.alloc (w := w.drew) (Sim.of_heap (w := w) (w' := w.drew) rfl hS) (hn n (Nat.le_refl _) (by omega)) _ (.row ([] ++ xs) true) (cap * j.size) (by simp) (new_rel (ρ := ρ) .nil hXs (by simp [hxl]) hcap hT.hzs) _ (fun i => T.get_set _ _ _ _))⟩
      have hput : (ρ.put n ⟨w.drew.heap.size, 0, cap * j.size⟩) n = some ⟨w.heap.size, 0, cap * j.size⟩ := by simp [Mp.put]
      have := R.sl (len := k) (cap := .rest j.size) (off := 0) hput (by simp only [ACap.of, Nat.sub_zero]; rw [Nat.mul_div_cancel _ hpos]; omega)
      simp only [ACap.of, Nat.sub_zero, Nat.mul_div_cancel _ hpos] at this
      simpa using this
  · rename_i id off len cap
    simp only [execApp1] at hx1
    split at hx1
    -- nothing is appended
    · cases hx1
      cases hRs with
      | sl he hl =>
        rename_i e
        have hXs0 : Xs = [] := by
          have := hXs.length; rw [hxl] at this; simp at this; exact List.length_eq_zero_iff.1 this.symm
        subst hXs0
        refine ⟨ρ, _, w, ?_, .sl he hl, Step.refl hS⟩
        rw [app_place_u hT hA ha hb (by simpa using hl)]
        rfl
      | sl0 he =>
        rename_i o0 e0
        have hXs0 : Xs = [] := by
          have := hXs.length; rw [hxl] at this; simp at this; exact List.length_eq_zero_iff.1 this.symm
        subst hXs0
        refine ⟨ρ, _, w, ?_, .sl0 (o := o0) he, Step.refl hS⟩
        rw [app_place_u hT hA ha hb (Nat.le_refl _)]
        rfl
    · rename_i hk0
      have hk0 : k ≠ 0 := fun h => hk0 h
      split at hx1 <;> (try cases hx1)
      rename_i cs ext st mu hm
      split at hx1 <;> (try cases hx1)
      rename_i hb1
      have hb1 := Nat.le_of_ble_eq_true hb1
      have hosl : ((cs.drop off).take (len * j.size)).length = len * j.size := by simp; omega
      -- what the old cells read, in whatever world of this heap
      have hread : ∀ e, ρ id = some e → ∃ Os, Rs ρ ((cs.drop off).take (len * j.size)) Os ∧ (∀ cp, (Builtin.firstCells j.size len (.slice (some ⟨e.blk, e.dl + off, none⟩) len cp)).run P w.drew = .ok ⟨Os⟩ w.drew) ∧ cs.length ≤ e.tot := by
        intro e he
        obtain ⟨x, hxx, hrel⟩ := hS.rel id e _ he hm
        obtain ⟨c, el, fz, Cs, rfl, hRs', hcell, hsz, hle, _, _⟩ := hrel
        refine ⟨_, Rs.take (len * j.size) (Rs.drop off hRs'), fun cp => ?_, hle⟩
        simp only [Builtin.firstCells]
        have hx' : w.drew.heap[e.blk]? = some (.cells c el fz) := hxx
        rw [loads_at hx' (by omega), row_cells hRs' hcell hb1]
      -- a new block, its old one living on or dead
      have inplace : ∀ e (c2 : ACap), ρ id = some e → S = .slice (some ⟨e.blk, e.dl + off, none⟩) len (c2.of off e.tot) → len + k ≤ c2.of off e.tot → mu = true → off + (len + k) * j.size ≤ cs.length → scals xs = true →
          ∃ ρ' V w', (Builtin.append_ ts ty args).run P w = .ok V w' ∧ R ρ' (.sl id off (len + k) c2) V ∧
            Step ρ m.get n w ρ' (m.set id ⟨.row (overL cs (off + len * j.size) xs) ext, n, true⟩).get (n + 1) w' := by
        intro e c2 he hSe hcap hmu hfit hsc
        subst hSe
        have hadd : (len + k) * j.size = len * j.size + k * j.size := Nat.add_mul _ _ _
        obtain ⟨w', hr, hst⟩ := write_row (P := P) (k := off + len * j.size) hS he hm hmu rfl hXs (by omega) hsc _ (fun i => T.get_set _ _ _ _)
        refine ⟨ρ, _, w', ?_, .sl he hcap, hst⟩
        rw [app_place_u hT hA ha hb hcap]
        simp only [addr_add, Nat.add_assoc] at hr ⊢
        rw [hr]; rfl
      cases cap with
      | fix c =>
        simp only [] at hx1
        split at hx1
        · rename_i hb2
          have hb2 := Nat.le_of_ble_eq_true hb2
          split at hx1 <;> cases hx1
          rename_i hcond
          simp only [Bool.and_eq_true] at hcond
          cases hRs with
          | sl he hl => exact inplace _ (.fix c) he rfl hb2 hcond.1.1 (Nat.le_of_ble_eq_true hcond.1.2) hcond.2
        · rename_i hb2
          simp only [Option.some.injEq, Prod.mk.injEq] at hx1
          obtain ⟨rfl, rfl, rfl, hroom⟩ := hx1
          cases hRs with
          | sl he hl =>
            rename_i e
            obtain ⟨Os, hOs, hof, htot⟩ := hread e he
            have hnle : ¬ len + k ≤ c := fun h => by rw [Nat.ble_eq_true_of_le h] at hb2; cases hb2
            obtain ⟨cap, hcap, hrun⟩ := app_new_u hT hA ha hb (hof _) hnle hroom
            refine ⟨_, _, _, hrun, ?_, Step.left (w := w) (w1 := w.drew) rfl ⟨rfl, rfl, rfl⟩ (Step.alloc (w := w.drew) (Sim.of_heap (w := w) (w' := w.drew) rfl hS) (hn n (Nat.le_refl _) (by omega)) _ (.row ((cs.drop off).take (len * j.size) ++ xs) true) (cap * j.size) (by simp)
              (new_rel (ρ := ρ) hOs hXs (by rw [hosl, hxl, Nat.add_mul]) hcap hT.hzs) _ (fun i => T.get_set _ _ _ _))⟩
            have hput : (ρ.put n ⟨w.drew.heap.size, 0, cap * j.size⟩) n = some ⟨w.heap.size, 0, cap * j.size⟩ := by simp [Mp.put]
            have := R.sl (len := len + k) (cap := .rest j.size) (off := 0) hput (by simp only [ACap.of, Nat.sub_zero]; rw [Nat.mul_div_cancel _ hpos]; omega)
            simp only [ACap.of, Nat.sub_zero, Nat.mul_div_cancel _ hpos] at this
            simpa using this
      | rest z' =>
        simp only [] at hx1
        split at hx1 <;> (try cases hx1)
        rename_i hcond
        simp only [Bool.and_eq_true] at hcond
        obtain ⟨⟨hmu, hzz⟩, hsc⟩ := hcond
        have hzz := Nat.eq_of_beq_eq_true hzz
        subst hzz
        split at hx1
        · rename_i hc2
          simp only [Bool.and_eq_true] at hc2
          have hlen0 : 0 < len := Nat.le_of_ble_eq_true hc2.1
          have hfit := Nat.le_of_ble_eq_true hc2.2
          cases hx1
          cases hRs with
          | sl0 he => omega
          | sl he hl =>
            rename_i e
            obtain ⟨Os, hOs, hof, htot⟩ := hread e he
            refine inplace e (.rest j.size) he rfl ?_ hmu hfit hsc
            simp only [ACap.of]
            rw [Nat.le_div_iff_mul_le hpos]; omega
        · simp only [Option.some.injEq, Prod.mk.injEq] at hx1
          obtain ⟨rfl, rfl, rfl, hroom⟩ := hx1
          -- a new block
          have anew : ∀ e o cp, ρ id = some e → S = .slice (some ⟨e.blk, o, none⟩) len cp → (o = e.dl + off ∨ len = 0) → ¬ len + k ≤ cp →
              ∃ ρ' V w', (Builtin.append_ ts ty args).run P w = .ok V w' ∧ R ρ' (.sl (n + 1) 0 (len + k) (.rest j.size)) V ∧
                Step ρ m.get n w ρ' ((m.set id ⟨.dead, n, true⟩).set (n + 1) ⟨.row ((cs.drop off).take (len * j.size) ++ xs) true, n + 1, true⟩).get (n + 2) w' := by
            intro e o cp he hSe hoo hnle
            subst hSe
            obtain ⟨Os, hOs, hof, htot⟩ := hread e he
            have hof' : (Builtin.firstCells j.size len (.slice (some ⟨e.blk, o, none⟩) len cp)).run P w.drew = .ok ⟨Os⟩ w.drew := by
              rcases hoo with rfl | h0
              · exact hof cp
              · subst h0
                have : Os = [] := by
                  have := hOs.length; simp at this; exact List.length_eq_zero_iff.1 this.symm
                subst this
                simp [Builtin.firstCells]; rfl
            obtain ⟨cap, hcap, hrun⟩ := app_new_u hT hA ha hb hof' hnle hroom
            have hkill : Step ρ m.get n w ρ (m.set id ⟨.dead, n, true⟩).get (n + 1) w := by
              obtain ⟨x, hxx, _⟩ := hS.rel id e _ he hm
              exact Step.write hS he hm hmu (by simp) .dead (Same.refl _) rfl (fun _ _ => rfl) ⟨x, hxx, trivial⟩ _ (fun i => T.get_set _ _ _ _)
            have hnew := Step.left (w1 := w.drew) (w := w) rfl ⟨rfl, rfl, rfl⟩ (Step.alloc (w := w.drew) (n := n + 1) (Sim.of_heap (w := w) (w' := w.drew) rfl hkill.sim) (hn (n + 1) (by omega) (by omega)) _ (.row ((cs.drop off).take (len * j.size) ++ xs) true) (cap * j.size) (by simp)
              (new_rel (ρ := ρ) (el := elem) (B := w.drew.heap.size) hOs hXs (by rw [hosl, hxl, Nat.add_mul]) hcap hT.hzs) ((m.set id ⟨.dead, n, true⟩).set (n + 1) ⟨.row ((cs.drop off).take (len * j.size) ++ xs) true, n + 1, true⟩).get (fun i => T.get_set _ _ _ _))
            refine ⟨_, _, _, hrun, ?_, hkill.trans hnew⟩
            have hput : (ρ.put (n + 1) ⟨w.drew.heap.size, 0, cap * j.size⟩) (n + 1) = some ⟨w.heap.size, 0, cap * j.size⟩ := by simp [Mp.put]
            have := R.sl (len := len + k) (cap := .rest j.size) (off := 0) hput (by simp only [ACap.of, Nat.sub_zero]; rw [Nat.mul_div_cancel _ hpos]; omega)
            simp only [ACap.of, Nat.sub_zero, Nat.mul_div_cancel _ hpos] at this
            simpa using this
          cases hRs with
          | sl0 he => exact anew _ _ 0 he rfl (.inr rfl) (by omega)
          | sl he hl =>
            rename_i e
            by_cases hroomy : len + k ≤ (ACap.rest j.size).of off e.tot
            · -- there was room: the block goes on
              obtain ⟨x, hxx, hrel⟩ := hS.rel id e _ he hm
              obtain ⟨c, el, fz, Cs, rfl, hRs', hcell, hsz, hle, _, hfz⟩ := hrel
              have hroom2 : (len + k) * j.size ≤ e.tot - off := by
                simp only [ACap.of] at hroomy
                exact (Nat.le_div_iff_mul_le hpos).1 hroomy
              have hadd : (len + k) * j.size = len * j.size + k * j.size := Nat.add_mul _ _ _
              have hXl : Xs.length = k * j.size := by rw [← hXs.length, hxl]
              have hCl := hRs'.length
              obtain ⟨w', hr, hsm, hs, hfrm, c', hc', hcl'⟩ := stores_at (P := P) (o := e.dl + off + len * j.size) (fz := fz) Xs 0 w c hxx (fun k hk => hfz.out hk) (by omega) (scals_one hsc hXs)
              have hsz' : c'.size = c.size := by rw [← Array.length_toList, hcl', overV_length, Array.length_toList]
              have hOs := Rs.take (len * j.size) (Rs.drop off hRs')
              have hrel' : Rel ρ (.row ((cs.drop off).take (len * j.size) ++ xs) true) ⟨e.blk, e.dl + off, e.tot - off⟩ (.cells c' el fz) := by
                refine ⟨c', el, fz, (Cs.drop off).take (len * j.size) ++ Xs, rfl, Rs.append hOs hXs, fun i hi => ?_, ?_, ?_, (fun h => by cases h), ?_⟩
                · simp only [List.length_append, hosl, hxl] at hi
                  rw [← Array.getElem?_toList, hcl', overV_get]
                  simp only [Array.length_toList]
                  have hol : ((Cs.drop off).take (len * j.size)).length = len * j.size := by rw [← hOs.length, hosl]
                  by_cases hi2 : i < len * j.size
                  · rw [if_neg (by omega), List.getElem?_append_left (by omega), Array.getElem?_toList, Nat.add_assoc, hcell _ (by omega), List.getElem?_take, if_pos hi2, List.getElem?_drop]
                  · rw [if_pos (by omega), List.getElem?_append_right (by omega), hol]
                    congr 1; omega
                · simp only [hsz', hsz]; omega
                · simp only [List.length_append, hosl, hxl]; omega
                · rw [hsz']; exact hfz
              have hgrow := Step.grow (w := w) (w' := w') hS (hn (n + 1) (by omega) (by omega)) he hm hmu (by simp) (.row ((cs.drop off).take (len * j.size) ++ xs) true) hsm hs hfrm ⟨e.blk, e.dl + off, e.tot - off⟩ rfl ⟨_, hc', hrel'⟩
                ((m.set id ⟨.dead, n, true⟩).set (n + 1) ⟨.row ((cs.drop off).take (len * j.size) ++ xs) true, n + 1, true⟩).get (fun i => by rw [T.get_set]; simp only [Mem.put, T.get_set])
              refine ⟨_, .slice (some ⟨e.blk, e.dl + off, none⟩) (len + k) ((e.tot - off) / j.size), w', ?_, ?_, hgrow⟩
              · rw [app_place_u hT hA ha hb hroomy]
                simp only [addr_add]
                rw [hr]; rfl
              · have hput : (ρ.put (n + 1) ⟨e.blk, e.dl + off, e.tot - off⟩) (n + 1) = some ⟨e.blk, e.dl + off, e.tot - off⟩ := by simp [Mp.put]
                have := R.sl (len := len + k) (cap := .rest j.size) (off := 0) hput (by simpa only [ACap.of, Nat.sub_zero] using hroomy)
                simpa only [ACap.of, Nat.sub_zero, Nat.add_zero] using this
            · exact anew e _ _ he rfl (.inl rfl) hroomy
end
end Ev
end Go.Proofs.YtakgohocimlagaaGreat
