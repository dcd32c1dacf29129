/-
  An evaluator over plain data (8): operations that make a block. Of no program. No condition.
-/
import Derived.Test.YtakgohocimlagaaGreatEvG
import Derived.IntWalk
namespace Go.Proofs.YtakgohocimlagaaGreat
namespace Ev
variable [E : Inhabited EnvT]
set_option linter.unusedVariables false
set_option linter.unusedSectionVars false
set_option linter.unusedSimpArgs false
open Go.RowKit Go.IntWalk

section
variable {P : Program} {ρ : Mp} {ev : Operand → Value}

inductive AK where
  | alloc (z : List AV)
  | box
  | bslice (z : List AV) (sz len : Nat) (ps : List (Nat × Nat))
  | mkS (z : List AV) (sz bytes : Nat)
  | mkM

def zrep (z : List AV) (n : Nat) : List AV := (List.range n).map fun i => match z[i % z.length]? with
  | some v => v
  | none => .nilp
theorem Rs_map {α : Type} {f : α → AV} {F : α → Value} : ∀ {l : List α}, (∀ i ∈ l, R ρ (f i) (F i)) → Rs ρ (l.map f) (l.map F)
  | [], _ => .nil
  | x :: r, h => .cons (h x (by simp)) (Rs_map fun i hi => h i (by simp [hi]))
theorem Rs_zrep {z : List AV} {Z : Array Value} {n : Nat} (h : Rs ρ z Z.toList) (h0 : z.length ≠ 0 ∨ n = 0) :
    Rs ρ (zrep z n) ((Array.range n).map (fun i => Z[i % Z.size]!)).toList := by
  have e : ((Array.range n).map (fun i => Z[i % Z.size]!)).toList = (List.range n).map (fun i => Z[i % Z.size]!) := by simp
  rw [e]
  refine Rs_map fun i hi => ?_
  have hlen : z.length = Z.size := by have := h.length; simpa using this
  have hz : 0 < z.length := by
    have : i < n := by simpa using hi
    omega
  have hm : i % z.length < z.length := Nat.mod_lt _ hz
  have hz1 : z[i % z.length]? = some (z[i % z.length]) := List.getElem?_eq_getElem hm
  simp only [hz1]
  obtain ⟨X, hX, hR⟩ := Rs.get h hz1
  have : Z[i % Z.size]! = X := by
    rw [← hlen]
    rw [getElem!_def]
    rw [Array.getElem?_toList] at hX
    rw [hX]
  rw [this]; exact hR

def execA (k : AK) (vs : List AV) (n : Nat) : Option (AO × Nat × AV × Bool) := match k, vs with
  | .alloc z, [] => some (.row z false, z.length, .ptr n 0, true)
  | .box, [v] => some (.row (cellsA v) false, (cellsA v).length, .ptr n 0, true)
  | .bslice z sz len ps, vs => match fillL (zrep z (len * sz)) ps vs with
    | some cs => some (.row cs false, cs.length, .sl n 0 len (.fix len), true)
    | none => none
  | .mkS z sz bytes, [.int _ l, .int _ c] => some (.row (zrep z (c.toNat * sz)) false, c.toNat * sz, .sl n 0 l.toNat (.fix c.toNat),
      decide (0 ≤ l) && decide (l ≤ c) && decide (c ≤ 9223372036854775807) && decide ((bytes : Int) * c ≤ 281474976710656) && (Nat.blt 0 z.length || Nat.beq (c.toNat * sz) 0))
  | .mkM, _ => some (.map [] 0, 0, .map n, true)
  | _, _ => none

def compAK (P : Program) : Op → Option (AK × List Operand)
  | .alloc t => match zeroOf P t with
    | some z => some (.alloc z, [])
    | none => none
  | .box t x => some (.box, [x])
  | .buildSlice t len parts => match P.underlying t with
    | some (.slice e) => match P.info? e with
      | some j => if len * j.size = 0 then some (.bslice [] j.size len (placesA j.size (parts.toList.map (·.1))), parts.toList.map (·.2)) else
          match zeroOf P e with
          | some z => if len * j.size > 16777216 ∨ z.length = 0 then none else some (.bslice z j.size len (placesA j.size (parts.toList.map (·.1))), parts.toList.map (·.2))
          | none => none
      | none => none
    | _ => none
  | .makeSlice t l c => match P.underlying t with
    | some (.slice e) => match P.info? e, zeroOf P e with
      | some j, some z => some (.mkS z j.size j.bytes, [l, c])
      | _, _ => none
    | _ => none
  | .makeMap t none => some (.mkM, [])
  | _ => none

/-- a new block, of such content -/
theorem new_run {w : World} (x : Obj) : (newObj x).run P w = .ok w.heap.size (w.alloc x) := rfl
theorem row_rel {cs : List AV} {Cs : List Value} {B : Nat} {el : TypeId} (h : Rs ρ cs Cs) : Rel ρ (.row cs false) ⟨B, 0, cs.length⟩ (.cells ⟨Cs⟩ el (0, 0)) :=
  ⟨⟨Cs⟩, el, (0, 0), Cs, rfl, h, fun i _ => by simp, by simp [h.length], Nat.le_refl _, fun _ => ⟨rfl, rfl⟩, .inl rfl⟩

theorem compA_gives {w : World} {o : Oper} {ak : AK} {xs : List Operand} {vs : List AV} {n tot : Nat} {ob : AO} {v : AV} (hc : compAK P o.op = some (ak, xs)) (hx : execA ak vs n = some (ob, tot, v, true))
    (hR : Rs ρ vs (xs.map ev)) (hn : ρ n = none) :
    ob ≠ .dead ∧ ∃ V x, (execOp ev o).run P w = .ok (.value V) (w.alloc x) ∧ Rel ρ ob ⟨w.heap.size, 0, tot⟩ x ∧ R (ρ.put n ⟨w.heap.size, 0, tot⟩) v V := by
  have fin : ∀ {s : Sem Value} {V : Value} {w' : World}, s.run P w = .ok V w' → (do pure (.value (← s)) : Sem Next).run P w = .ok (.value V) w' := fun h => by simp [h]
  have here : ∀ {e : Ent}, (ρ.put n e) n = some e := by intro e; simp [Mp.put]
  unfold execOp
  cases hop : o.op <;> rw [hop] at hc <;> simp only [] <;> (try (simp only [compAK, reduceCtorEq] at hc; done))
  case alloc t =>
    simp only [compAK] at hc
    split at hc <;> cases hc
    rename_i z hz
    obtain ⟨Z, hZ, hzr⟩ := zero_gives (ρ := ρ) hz
    simp only [List.map_nil] at hR
    cases hR
    simp only [execA, Option.some.injEq, Prod.mk.injEq] at hx
    obtain ⟨rfl, rfl, rfl, -⟩ := hx
    refine ⟨by simp, _, .cells Z.cells t (0, 0), fin ?_, row_rel hZ, R.ptr (e := ⟨w.heap.size, 0, z.length⟩) (off := 0) here⟩
    unfold Instr.alloc
    simp only [Sem.run_bind, hzr, Result.andThen_ok, newVar, newRow, new_run, Sem.run_pure] <;> rfl
  case box t x =>
    cases hc
    obtain ⟨y, rfl, hy⟩ := Rs1 hR
    simp only [execA, Option.some.injEq, Prod.mk.injEq] at hx
    obtain ⟨rfl, rfl, rfl, -⟩ := hx
    refine ⟨by simp, _, .cells (ev x).cells t (0, 0), fin ?_, row_rel (R_cells hy), R.ptr (e := ⟨w.heap.size, 0, (cellsA y).length⟩) (off := 0) here⟩
    unfold Instr.box
    simp only [Sem.run_bind, Result.andThen_ok, newVar, newRow, new_run, Sem.run_pure] <;> rfl
  case buildSlice t len parts =>
    simp only [compAK] at hc
    split at hc <;> (try cases hc)
    rename_i e hu
    split at hc <;> (try cases hc)
    rename_i j hj
    have hzip : (parts.map fun (x : Nat × Operand) => (x.1, ev x.2)).toList = (parts.toList.map (·.1)).zip ((parts.toList.map (·.2)).map ev) := by
      rw [Array.toList_map, List.map_map, List.zip_map']; simp [Function.comp_def]
    have hlen : ((parts.toList.map (·.2)).map ev).length = (parts.toList.map (·.1)).length := by simp
    obtain ⟨h1, h2⟩ := placesA_get j.size (parts.toList.map (·.1))
    split at hc
    · rename_i h0
      cases hc
      simp only [execA] at hx
      split at hx <;> cases hx
      rename_i cs hf
      have hzero : Rs ρ (zrep [] (len * j.size)) ([] : List Value) := by rw [h0]; exact .nil
      obtain ⟨Out, hO, hfi⟩ := fill_gives (ρ := ρ) (fun i => some (i * j.size, j.size)) h1 h2 hR hlen hzero hf
      refine ⟨by simp, _, .cells ⟨Out⟩ e (0, 0), fin ?_, row_rel hO, R.sl (cap := .fix len) (e := ⟨w.heap.size, 0, cs.length⟩) (off := 0) here (Nat.le_refl _)⟩
      unfold Instr.buildSlice
      have h24 : ¬ (0 : Nat) > 2 ^ 24 := by decide
      simp only [Sem.run_bind, r_und hu, r_size hj, Result.andThen_ok, h24, if_false, h0, if_true, Sem.run_pure, hzip]
      have : ((Array.range 0).map fun i => (#[] : Array Value)[i % (#[] : Array Value).size]!) = ⟨[]⟩ := by simp
      simp only [this, hfi, newRow, Sem.run_bind, new_run, Result.andThen_ok, Sem.run_pure, ACap.of] <;> rfl
    · rename_i h0
      split at hc <;> (try cases hc)
      rename_i z hz
      split at hc <;> cases hc
      rename_i hq
      obtain ⟨hq1, hq2⟩ := not_or.1 hq
      obtain ⟨Z, hZ, hzr⟩ := zero_gives (ρ := ρ) hz
      simp only [execA] at hx
      split at hx <;> cases hx
      rename_i cs hf
      have hzero := Rs_zrep (n := len * j.size) hZ (.inl hq2)
      obtain ⟨Out, hO, hfi⟩ := fill_gives (ρ := ρ) (fun i => some (i * j.size, j.size)) h1 h2 hR hlen hzero hf
      refine ⟨by simp, _, .cells ⟨Out⟩ e (0, 0), fin ?_, row_rel hO, R.sl (cap := .fix len) (e := ⟨w.heap.size, 0, cs.length⟩) (off := 0) here (Nat.le_refl _)⟩
      unfold Instr.buildSlice
      have h24 : ¬ len * j.size > 2 ^ 24 := by omega
      simp only [Sem.run_bind, r_und hu, r_size hj, Result.andThen_ok, h24, if_false, h0, hzr, Sem.run_pure, hzip]
      simp only [hfi, newRow, Sem.run_bind, new_run, Result.andThen_ok, Sem.run_pure, ACap.of] <;> rfl
  case makeSlice t l c =>
    simp only [compAK] at hc
    split at hc <;> (try cases hc)
    rename_i e hu
    split at hc <;> cases hc
    rename_i j z hj hz
    obtain ⟨Z, hZ, hzr⟩ := zero_gives (ρ := ρ) hz
    obtain ⟨a, b, rfl, ha, hb⟩ := Rs2 hR
    generalize hL : ev l = L at ha
    generalize hC : ev c = C at hb
    cases a <;> (try (simp only [execA, reduceCtorEq] at hx; done))
    cases b <;> (try (simp only [execA, reduceCtorEq] at hx; done))
    rename_i k1 l1 k2 c1
    simp only [execA, Option.some.injEq, Prod.mk.injEq, Bool.and_eq_true, decide_eq_true_eq, Bool.or_eq_true] at hx
    obtain ⟨rfl, rfl, rfl, ⟨⟨⟨h1, h2⟩, h3⟩, h4⟩, h5⟩ := hx
    cases ha; cases hb
    have h5' : z.length ≠ 0 ∨ c1.toNat * j.size = 0 := by
      rcases h5 with h | h
      · left; have := Nat.le_of_ble_eq_true h; omega
      · right; exact Nat.eq_of_beq_eq_true h
    have hrow := Rs_zrep (n := c1.toNat * j.size) hZ h5'
    have hlen : (zrep z (c1.toNat * j.size)).length = c1.toNat * j.size := by simp [zrep]
    have hw1 : IntKind.i64.wrap l1 = l1 := i64_in _ (by omega)
    have hw2 : IntKind.i64.wrap c1 = c1 := i64_in _ (by omega)
    have hrel := row_rel (B := w.heap.size) (el := e) hrow
    rw [hlen] at hrel
    refine ⟨by simp, _, _, fin ?_, hrel, R.sl (cap := .fix c1.toNat) (e := ⟨w.heap.size, 0, c1.toNat * j.size⟩) (off := 0) here (by simp only [ACap.of]; omega)⟩
    unfold Instr.makeSlice
    have t1 : (decide (c1 < 0) || decide ((j.bytes : Int) * c1 > 2 ^ 48)) = false := by simp; omega
    have t2 : decide (l1 < 0) = false := by simp; omega
    have t3 : decide (l1 > c1) = false := by simp; omega
    have e1 : ∀ A : Array Value, (⟨A.toList⟩ : Array Value) = A := fun A => rfl
    simp only [hL, hC, Sem.run_bind, r_und hu, Result.andThen_ok, asInt, asIntOf, Sem.run_pure, r_info hj, hw1, hw2, t1, t2, t3, Bool.or_self, Bool.false_eq_true, if_false, run_askRoom, r_size hj, e1]
    by_cases hn0 : c1.toNat * j.size = 0
    · simp only [hn0, if_true, Sem.run_pure, Result.andThen_ok, newRow, Sem.run_bind, new_run, ACap.of]
      have hr : ∀ F : Nat → Value, (Array.range 0).map F = #[] := fun F => by simp
      simp only [hr] <;> rfl
    · simp only [hn0, if_false, hzr, Sem.run_bind, Sem.run_pure, Result.andThen_ok, newRow, new_run, ACap.of] <;> rfl
  case makeMap t r =>
    cases r <;> simp only [compAK, reduceCtorEq] at hc
    cases hc
    simp only [List.map_nil] at hR
    cases hR
    simp only [execA, Option.some.injEq, Prod.mk.injEq] at hx
    obtain ⟨rfl, rfl, rfl, -⟩ := hx
    refine ⟨by simp, _, .map #[] 0, fin ?_, ⟨[], rfl, .nil⟩, R.map (e := ⟨w.heap.size, 0, 0⟩) here⟩
    unfold Instr.makeMap
    simp only [Option.map_none, Sem.run_bind, new_run, Result.andThen_ok, Sem.run_pure]
end
end Ev
end Go.Proofs.YtakgohocimlagaaGreat
