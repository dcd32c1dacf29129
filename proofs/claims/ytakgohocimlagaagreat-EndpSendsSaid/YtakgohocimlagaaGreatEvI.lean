/-
  An evaluator over plain data (9): operations that write a block. Of no program. No condition.
-/
import Derived.Test.YtakgohocimlagaaGreatEvH
import Derived.Laws.AppendOwn
namespace Go.Proofs.YtakgohocimlagaaGreat
namespace Ev
variable [E : Inhabited EnvT]
set_option linter.unusedVariables false
set_option linter.unusedSectionVars false
set_option linter.unusedSimpArgs false
open Go.RowKit Go.IntWalk

section
variable {P : Program} {ρ : Mp} {ev : Operand → Value}

theorem overV_length : ∀ (U : List Value) (L : List Value) (k : Nat), (overV L k U).length = L.length
  | [], L, k => rfl
  | u :: U, L, k => by simp [overV, overV_length U]
theorem overL_length : ∀ (U : List AV) (L : List AV) (k : Nat), (overL L k U).length = L.length
  | [], L, k => rfl
  | u :: U, L, k => by simp [overL, overL_length U]
theorem overV_get : ∀ (U : List Value) (L : List Value) (k j : Nat), (overV L k U)[j]? = if k ≤ j ∧ j < k + U.length ∧ j < L.length then U[j - k]? else L[j]?
  | [], L, k, j => by
    simp only [overV, List.length_nil]
    rw [if_neg (by omega)]
  | u :: U, L, k, j => by
    simp only [overV]
    rw [overV_get U (L.set k u) (k + 1) j]
    simp only [List.length_set, List.length_cons]
    by_cases h1 : k + 1 ≤ j ∧ j < k + 1 + U.length ∧ j < L.length
    · rw [if_pos h1, if_pos (by omega)]
      have : j - k = (j - (k + 1)) + 1 := by omega
      rw [this]; simp
    · rw [if_neg h1]
      by_cases h2 : k = j
      · subst h2
        by_cases h3 : k < L.length
        · rw [if_pos (by omega), List.getElem?_set_self h3]; simp
        · rw [if_neg (by omega)]
          rw [List.getElem?_eq_none (by simp; omega), List.getElem?_eq_none (by omega)]
      · rw [List.getElem?_set_ne h2, if_neg (by omega)]

theorem setCell_self {w : World} {B k : Nat} {c : Array Value} {el : TypeId} {fz : Nat × Nat} (v : Value) (h : w.heap[B]? = some (.cells c el fz)) :
    (w.setCell ⟨B, k, none⟩ v).heap[B]? = some (.cells (c.setIfInBounds k v) el fz) := by
  simp only [World.setCell, Array.getElem?_modify]
  simp [h]
theorem setCell_other {w : World} {B k b : Nat} (v : Value) (h : b ≠ B) : (w.setCell ⟨B, k, none⟩ v).heap[b]? = w.heap[b]? := by
  simp only [World.setCell, Array.getElem?_modify]
  have : ¬ B = b := fun e => h e.symm
  simp [this]
theorem setCell_size {w : World} {a : Addr} (v : Value) : (w.setCell a v).heap.size = w.heap.size := by simp

/-- cells laid into a row of the memory -/
theorem stores_at {B o : Nat} {el : TypeId} {fz : Nat × Nat} : ∀ (U : List Value) (i : Nat) (w : World) (c : Array Value), w.heap[B]? = some (.cells c el fz) →
    (∀ k, k < c.size → ¬ (fz.1 ≤ k ∧ k < fz.2)) → o + i + U.length ≤ c.size → (∀ u ∈ U, u.oneCell' = true) →
    ∃ w', (storeCells ⟨B, o, none⟩ U i).run P w = .ok () w' ∧ Same w w' ∧ w'.heap.size = w.heap.size ∧ (∀ b, b ≠ B → w'.heap[b]? = w.heap[b]?) ∧
      ∃ c' : Array Value, w'.heap[B]? = some (.cells c' el fz) ∧ c'.toList = overV c.toList (o + i) U
  | [], i, w, c, h, hf, hl, ho => ⟨w, rfl, Same.refl _, rfl, fun _ _ => rfl, c, h, rfl⟩
  | u :: U, i, w, c, h, hf, hl, ho => by
    simp only [List.length_cons] at hl
    have hlt : o + i < c.size := by omega
    have h1 := setCell_self (k := o + i) u h
    obtain ⟨w', hr, hsm, hs, hb, c', hc', hcl⟩ := stores_at (o := o) (fz := fz) U (i + 1) (w.setCell ⟨B, o + i, none⟩ u) (c.setIfInBounds (o + i) u) h1 (by simpa using hf) (by simp; omega)
      (fun x hx => ho x (List.mem_cons_of_mem _ hx))
    refine ⟨w', ?_, (show Same w (w.setCell ⟨B, o + i, none⟩ u) from ⟨rfl, rfl, rfl⟩).trans hsm, by rw [hs, setCell_size], fun b hbb => by rw [hb b hbb, setCell_other u hbb], c', hc', ?_⟩
    · simp only [storeCells, Sem.run_bind, addr_add]
      rw [run_store _ _ _ _ _ (ho u (by simp)), cell_at h, Array.getElem?_eq_getElem hlt]
      have hfz : w.frozen? ⟨B, o + i, none⟩ = false := by
        have := hf (o + i) hlt
        simp only [World.frozen?, h]
        cases fz
        simp at this ⊢; omega
      simp only [hfz, Bool.false_eq_true, if_false, Result.andThen_ok, hr]
    · rw [hcl]; simp [overV, Nat.add_assoc]

def scal : AV → Bool
  | .agg _ | .tup _ => false
  | _ => true
def scals : List AV → Bool
  | [] => true
  | v :: r => match scal v with
    | true => scals r
    | false => false
theorem scals_one : ∀ {u : List AV} {U : List Value}, scals u = true → Rs ρ u U → ∀ x ∈ U, x.oneCell' = true
  | [], _, _, hR => by cases hR; simp
  | v :: r, _, h, hR => by
    cases hR with
    | cons hv hs =>
      simp only [scals] at h
      split at h
      · rename_i hs1
        intro x hx
        rcases List.mem_cons.1 hx with rfl | hx
        · cases v <;> simp only [scal, Bool.false_eq_true] at hs1 <;> cases hv <;> first | rfl | exact (E.default.vo _).2
        · exact scals_one h hs x hx
      · cases h

/-- a row of memory written: what the row's object says afterwards -/
theorem write_row {w : World} {m : Mem} {n id k : Nat} {e : Ent} {s : Slot} {cs : List AV} {ext : Bool} {u : List AV} {U : List Value} (hS : Sim ρ m w) (he : ρ id = some e) (hm : m id = some s)
    (hmu : s.mu = true) (ho : s.o = .row cs ext) (hu : Rs ρ u U) (hk : k + u.length ≤ cs.length) (hsc : scals u = true) (m' : Mem) (hm' : ∀ i, m' i = m.put id ⟨.row (overL cs k u) ext, n, true⟩ i) :
    ∃ w', (storeCells ⟨e.blk, e.dl + k, none⟩ U).run P w = .ok () w' ∧ Step ρ m n w ρ m' (n + 1) w' := by
  obtain ⟨x, hx, hrel⟩ := hS.rel id e s he hm
  rw [ho] at hrel
  obtain ⟨c, el, fz, Cs, rfl, hRs, hcell, hsz, hle, hex, hfz⟩ := hrel
  have hul := hu.length
  have hcl := hRs.length
  obtain ⟨w', hr, hsm, hs, hb, c', hc', hcl'⟩ := stores_at (P := P) (o := e.dl + k) (fz := fz) U 0 w c hx (fun k hk => hfz.out hk) (by omega) (scals_one hsc hu)
  have hsz' : c'.size = c.size := by
    rw [← Array.length_toList, hcl', overV_length, Array.length_toList]
  refine ⟨w', hr, Step.write hS he hm hmu (by rw [ho]; simp) (.row (overL cs k u) ext) hsm hs hb ⟨_, hc', ?_⟩ m' hm'⟩
  refine ⟨c', el, fz, overV Cs k U, rfl, Rs_over k hRs hu, ?_, ?_, ?_, ?_, ?_⟩
  · intro i hi
    rw [overL_length] at hi
    have hL : c.toList[e.dl + i]? = Cs[i]? := by rw [Array.getElem?_toList]; exact hcell i hi
    rw [← Array.getElem?_toList, hcl', overV_get, overV_get, hL]
    simp only [Array.length_toList]
    by_cases hc : k ≤ i ∧ i < k + U.length
    · rw [if_pos (by omega), if_pos (by omega)]
      congr 1; omega
    · rw [if_neg (by omega), if_neg (by omega)]
  · rw [hsz', hsz]
  · rw [overL_length]; exact hle
  · rw [overL_length]; exact hex
  · rw [hsz']; exact hfz

/-! ### append -/
/-- what is appended: its cells, how many elements, and what is asked -/
def appX (z : Nat) (zl : List AV) (zeros : Bool) (bytes : Nat) (x : AV) (m : T Slot) : Option (List AV × Nat × Bool) := match zeros, x with
  | true, .int _ n => some (zrep zl (n.toNat * z), n.toNat, decide (0 ≤ n) && decide (n ≤ 281474976710656) && decide (n * (bytes : Int) ≤ 281474976710656))
  | false, .sl id off len _ => match m.get id with
    | some ⟨.row cs _, _, _⟩ => match Nat.ble (off + len * z) cs.length with
      | true => some ((cs.drop off).take (len * z), len, true)
      | false => none
    | _ => none
  | false, .nils => some ([], 0, true)
  | false, .str s => match z with
    | 1 => some (s.map fun b => .int .u8 (.ofNat (b % 256)), s.length, true)
    | _ => none
  | _, _ => none

def roomB (k bytes : Nat) : Bool := Nat.ble ((2 * k + 192) * bytes) 281474976710656 && Nat.ble k 4611686018427387904

def execApp1 (z bytes : Nat) (s : AV) (xs : List AV) (k : Nat) (m : T Slot) (n : Nat) : Option (AV × T Slot × Nat × Bool) := match s with
  | .nils => match k with
    | 0 => some (.nils, m, n, true)
    | _ => some (.sl n 0 k (.rest z), m.set n ⟨.row ([] ++ xs) true, n, true⟩, n + 1, roomB (0 + k) bytes)
  | .sl id off len cap => match k with
    | 0 => some (s, m, n, true)
    | _ => match m.get id with
      | some ⟨.row cs ext, _, mu⟩ => match Nat.ble (off + len * z) cs.length with
        | false => none
        | true => match cap with
          | .fix c => match Nat.ble (len + k) c with
            | true => match mu && Nat.ble (off + (len + k) * z) cs.length && scals xs with
              | true => some (.sl id off (len + k) (.fix c), m.set id ⟨.row (overL cs (off + len * z) xs) ext, n, true⟩, n + 1, true)
              | false => none
            | false => some (.sl n 0 (len + k) (.rest z), m.set n ⟨.row ((cs.drop off).take (len * z) ++ xs) true, n, true⟩, n + 1, roomB (len + k) bytes)
          | .rest z' => match mu && Nat.beq z z' && scals xs with
            | false => none
            | true => match Nat.blt 0 len && Nat.ble (off + (len + k) * z) cs.length with
              | true => some (.sl id off (len + k) (.rest z), m.set id ⟨.row (overL cs (off + len * z) xs) ext, n, true⟩, n + 1, true)
              | false => some (.sl (n + 1) 0 (len + k) (.rest z), (m.set id ⟨.dead, n, true⟩).set (n + 1) ⟨.row ((cs.drop off).take (len * z) ++ xs) true, n + 1, true⟩, n + 2, roomB (len + k) bytes)
      | _ => none
  | _ => none
def execApp (z bytes : Nat) (zl : List AV) (zeros : Bool) (s x : AV) (m : T Slot) (n : Nat) : Option (AV × T Slot × Nat × Bool) :=
  match appX z zl zeros bytes x m with
  | none => none
  | some (xs, k, q) => match execApp1 z bytes s xs k m n with
    | none => none
    | some (v, m', n', r) => some (v, m', n', q && r)

theorem zeroCells_eq (Z : Array Value) (n : Nat) : Builtin.zeroCells Z n = (Array.range (n * Z.size)).map (fun i => Z[i % Z.size]!) := rfl


def isIntD : TypeDesc → Bool
  | .int _ => true
  | _ => false

section
variable {t0 t1 ty elem : TypeId} {d1 : TypeDesc} {j : TypeInfo} {Z : Value} {ts : Array TypeId} {args : Array Value} {X : Value} {Xs : List Value} {k sLen sCap : Nat} {base : Option Addr} {w : World}

/-- append where there is room: the new cells are laid behind the old ones -/
theorem app_place (h0 : ts[0]? = some t0) (h1 : ts[1]? = some t1) (ha : args[0]? = some (.slice base sLen sCap)) (hb : args[1]? = some X) (hu : P.underlying t0 = some (.slice elem)) (hj : P.info? elem = some j)
    (hu1 : P.underlying t1 = some d1) (hd : isIntD d1 = false) (hl : ∀ w, (Builtin.lenOf X).run P w = .ok k w) (hf : (Builtin.firstCells j.size k X).run P w = .ok ⟨Xs⟩ w) (hle : sLen + k ≤ sCap) :
    (Builtin.append_ ts ty args).run P w = (match base with
      | some a => ((storeCells (a.add (sLen * j.size)) Xs).run P w).andThen fun _ w' => .ok (.slice (some a) (sLen + k) sCap) w'
      | none => .ok (.slice none (sLen + k) sCap) w) := by
  unfold Builtin.append_
  simp only [h0, h1, ha, hb, Sem.run_bind, r_und hu, r_und hu1, r_size hj, Result.andThen_ok, Sem.run_pure]
  split
  · simp [isIntD] at hd
  · cases base <;> simp [hl, hf, hle]
theorem app_placeZ {kd : IntKind} {n : Int} {z : Value} (h0 : ts[0]? = some t0) (h1 : ts[1]? = some t1) (ha : args[0]? = some (.slice base sLen sCap)) (hb : args[1]? = some (.int kd n)) (hu : P.underlying t0 = some (.slice elem)) (hj : P.info? elem = some j)
    (hz : ∀ w, (zeroValue elem).run P w = .ok z w) (hzs : z.cells.size = j.size)
    (hu1 : P.underlying t1 = some d1) (hd : isIntD d1 = true) (hn : 0 ≤ n ∧ n ≤ 281474976710656) (hnb : n * (j.bytes : Int) ≤ 281474976710656) (hk : k = n.toNat) (hle : sLen + k ≤ sCap) :
    (Builtin.append_ ts ty args).run P w = (match base with
      | some a => ((storeCells (a.add (sLen * j.size)) ((Array.range (k * j.size)).map (fun i => z.cells[i % z.cells.size]!)).toList).run P w).andThen fun _ w' => .ok (.slice (some a) (sLen + k) sCap) w'
      | none => .ok (.slice none (sLen + k) sCap) w) := by
  subst hk
  have hw : IntKind.i64.wrap n = n := i64_in _ (by omega)
  have hn0 : ¬ n < 0 := by omega
  have hnb' : ¬ (281474976710656 < n * (j.bytes : Int)) := by omega
  unfold Builtin.append_
  cases d1 <;> (try (simp [isIntD] at hd; done))
  by_cases hz0 : n.toNat * j.size = 0
  · cases base <;> simp [h0, h1, ha, hb, r_und hu, r_und hu1, r_size hj, r_info hj, hle, asInt, asIntOf, hw, hn0, hnb', hz0]
  · cases base <;> simp [h0, h1, ha, hb, r_und hu, r_und hu1, r_size hj, r_info hj, hle, asInt, asIntOf, hw, hn0, hnb', hz0, hz, zeroCells_eq, hzs]
/-- append where there is no room: a new block -/
theorem app_new {z : Value} {Os : List Value} (h0 : ts[0]? = some t0) (h1 : ts[1]? = some t1) (ha : args[0]? = some (.slice base sLen sCap)) (hb : args[1]? = some X) (hu : P.underlying t0 = some (.slice elem)) (hj : P.info? elem = some j)
    (hz : ∀ w, (zeroValue elem).run P w = .ok z w)
    (hu1 : P.underlying t1 = some d1) (hd : isIntD d1 = false) (hl : ∀ w, (Builtin.lenOf X).run P w = .ok k w) (hf : (Builtin.firstCells j.size k X).run P w.drew = .ok ⟨Xs⟩ w.drew)
    (ho : (Builtin.firstCells j.size sLen (.slice base sLen sCap)).run P w.drew = .ok ⟨Os⟩ w.drew) (hle : ¬ sLen + k ≤ sCap) (hr : roomB (sLen + k) j.bytes = true) :
    ∃ cap, sLen + k ≤ cap ∧ (Builtin.append_ ts ty args).run P w = .ok (.slice (some ⟨w.heap.size, 0, none⟩) (sLen + k) cap)
      (w.drew.alloc (.cells ((⟨Os⟩ : Array Value) ++ ⟨Xs⟩ ++ Builtin.zeroCells z.cells (cap - (sLen + k))) elem (0, 0))) := by
  simp only [roomB, Bool.and_eq_true] at hr
  have hr1 := Nat.le_of_ble_eq_true hr.1
  have hr2 := Nat.le_of_ble_eq_true hr.2
  have h63 : ¬ (9223372036854775807 < ((sLen : Int) + (k : Int))) := by omega
  have h48 : ¬ (281474976710656 < Builtin.nextslicecap (sLen + k) sCap * j.bytes) := by
    have h1 := nextslicecap_le (need := sLen + k) (old := sCap) (by omega)
    have h2 : Builtin.nextslicecap (sLen + k) sCap * j.bytes ≤ 2 * (sLen + k) * j.bytes := Nat.mul_le_mul_right _ h1
    have h3 : 2 * (sLen + k) * j.bytes ≤ (2 * (sLen + k) + 192) * j.bytes := Nat.mul_le_mul_right _ (by omega)
    omega
  refine ⟨grownCap w (sLen + k) sCap elem, grownCap_ge _ _ _ _, ?_⟩
  unfold Builtin.append_
  simp only [h0, h1, ha, hb, Sem.run_bind, r_und hu, r_und hu1, r_size hj, Result.andThen_ok, Sem.run_pure]
  split
  · simp [isIntD] at hd
  · simp [r_size hj, r_info hj, hl, hle, h63, h48, Question.forced, ho, hf, hz, newRow, grownCap]
    congr 2; apply Array.ext'; simp
theorem app_newZ {z : Value} {Os : List Value} {kd : IntKind} {n : Int} (h0 : ts[0]? = some t0) (h1 : ts[1]? = some t1) (ha : args[0]? = some (.slice base sLen sCap)) (hb : args[1]? = some (.int kd n)) (hu : P.underlying t0 = some (.slice elem)) (hj : P.info? elem = some j)
    (hz : ∀ w, (zeroValue elem).run P w = .ok z w) (hzs : z.cells.size = j.size)
    (hu1 : P.underlying t1 = some d1) (hd : isIntD d1 = true) (hn : 0 ≤ n ∧ n ≤ 281474976710656) (hnb : n * (j.bytes : Int) ≤ 281474976710656) (hk : k = n.toNat)
    (ho : (Builtin.firstCells j.size sLen (.slice base sLen sCap)).run P w.drew = .ok ⟨Os⟩ w.drew) (hle : ¬ sLen + k ≤ sCap) (hr : roomB (sLen + k) j.bytes = true) :
    ∃ cap, sLen + k ≤ cap ∧ (Builtin.append_ ts ty args).run P w = .ok (.slice (some ⟨w.heap.size, 0, none⟩) (sLen + k) cap)
      (w.drew.alloc (.cells ((⟨Os⟩ : Array Value) ++ ((Array.range (k * j.size)).map (fun i => z.cells[i % z.cells.size]!)) ++ Builtin.zeroCells z.cells (cap - (sLen + k))) elem (0, 0))) := by
  subst hk
  simp only [roomB, Bool.and_eq_true] at hr
  have hr1 := Nat.le_of_ble_eq_true hr.1
  have hr2 := Nat.le_of_ble_eq_true hr.2
  have hw : IntKind.i64.wrap n = n := i64_in _ (by omega)
  have hn0 : ¬ n < 0 := by omega
  have hnb' : ¬ (281474976710656 < n * (j.bytes : Int)) := by omega
  have h63 : ¬ (9223372036854775807 < ((sLen : Int) + max n 0)) := by omega
  have h48 : ¬ (281474976710656 < Builtin.nextslicecap (sLen + n.toNat) sCap * j.bytes) := by
    have h1 := nextslicecap_le (need := sLen + n.toNat) (old := sCap) (by omega)
    have h2 : Builtin.nextslicecap (sLen + n.toNat) sCap * j.bytes ≤ 2 * (sLen + n.toNat) * j.bytes := Nat.mul_le_mul_right _ h1
    have h3 : 2 * (sLen + n.toNat) * j.bytes ≤ (2 * (sLen + n.toNat) + 192) * j.bytes := Nat.mul_le_mul_right _ (by omega)
    omega
  refine ⟨grownCap w (sLen + n.toNat) sCap elem, grownCap_ge _ _ _ _, ?_⟩
  unfold Builtin.append_
  cases d1 <;> (try (simp [isIntD] at hd; done))
  by_cases hz0 : n.toNat * j.size = 0
  · have hr : ∀ F : Nat → Value, (Array.range 0).map F = #[] := fun F => by simp
    simp [h0, h1, ha, hb, r_und hu, r_und hu1, r_size hj, r_info hj, hle, asInt, asIntOf, hw, hn0, hnb', h63, h48, Question.forced, ho, hz, newRow, grownCap, hz0, hr] <;> rfl
  · simp [h0, h1, ha, hb, r_und hu, r_und hu1, r_size hj, r_info hj, hle, asInt, asIntOf, hw, hn0, hnb', h63, h48, Question.forced, ho, hz, newRow, grownCap, hz0, zeroCells_eq, hzs] <;> rfl
end
end
end Ev
end Go.Proofs.YtakgohocimlagaaGreat
