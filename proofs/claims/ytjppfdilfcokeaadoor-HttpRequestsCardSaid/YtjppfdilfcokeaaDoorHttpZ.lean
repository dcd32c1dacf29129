/-
  The document's fields as they come in, with what the row says of their sizes: no string is longer than 2^47 bytes. No condition.
-/
import Derived.Test.YtjppfdilfcokeaaDoorHttpD
import GoSem.ClaimJoined
namespace Go.Proofs.YtjppfdilfcokeaaDoor
open Go.RowKit Go.ChangeShapes Go.WideShapes Go.ChangeAt Go.Joins Go.Lib
set_option linter.unusedVariables false
set_option linter.unusedSimpArgs false

theorem weightsAll_mem {H : Type} {P : Program} {e : TypeId} : ∀ (l : List (DataW H)) (d : DataW H), d ∈ l → ∀ n ∈ d.weights P e, n ∈ DataW.weightsAll P e l
  | x :: r, d, hd, n, hn => by
    rw [DataW.weightsAll, List.mem_append]
    rcases List.mem_cons.1 hd with rfl | h
    · exact .inl hn
    · exact .inr (weightsAll_mem r d h n hn)
theorem weights_two {H : Type} {P : Program} {t0 t1 : TypeId} {d0 d1 : DataW H} (h : (DataW.weightsEach P [t0, t1] [d0, d1]).all (· ≤ reachBytes) = true) : ∀ n ∈ d1.weights P t1, n ≤ reachBytes := fun n hn => by
  have := List.all_eq_true.1 h n (by simp only [DataW.weightsEach, List.mem_append]; exact .inr (.inl hn))
  simpa using this
set_option maxRecDepth 100000 in
theorem open_fields2 {H : Type} {enc : TypeId × Value → H} {W : World} {v : Value} {d : DataW H} {p : List MemPlace} {b0 : Nat} (o : Value.okWide Tryd.prog W .any b0 29 v) (h : DataW.Trod enc Tryd.prog W 0 (fun _ => true) true 29 v d p) (hwt : ∀ n ∈ d.weights Tryd.prog 29, n ≤ reachBytes) :
    ∃ A n k l, v = .slice A n k ∧ FieldsV W A n k l ∧ ∀ f ∈ l, f.1.length ≤ 140737488355328 ∧ f.2.length ≤ 140737488355328 := by
  obtain ⟨a0, len, cap, rfl⟩ := okWide_slice Tryd.underlying29 o
  obtain ⟨fuel, hf⟩ := h
  rcases DataW.trod_slice Tryd.underlying29 hf with ⟨hcs, _⟩ | ⟨a, len', cap', elems, rest, n, _, hcs, hdx, hb, hl, hm, hlen, hel, _, _⟩
  · simp [Value.cells] at hcs
    obtain ⟨rfl, rfl, rfl⟩ := hcs
    exact ⟨none, 0, 0, [], rfl, ⟨rfl, by omega, fun h => by omega⟩, by simp⟩
  · simp [Value.cells] at hcs
    obtain ⟨rfl, rfl, rfl⟩ := hcs
    rw [Tryd.cellsFd] at hel
    have hd : d = .slice (elems.map (·.1)) (rest.map (·.1)) := congrArg Prod.fst hdx
    have key : ∀ i, i < len → ∃ x : FL, W.cell? (a.add (i * 2)) = some (.string (bs x.1)) ∧ W.cell? ((a.add (i * 2)).add 1) = some (.string (bs x.2)) ∧ x.1.length ≤ 140737488355328 ∧ x.2.length ≤ 140737488355328 := by
      intro i hi
      have he := hel i hi
      rw [List.getElem?_eq_getElem (by omega)] at he
      have hel2 : ∀ n ∈ (elems[i]).1.weights Tryd.prog 33, n ≤ reachBytes := fun n hn => hwt n (by
        rw [hd, DataW.weights, Tryd.underlying29]
        exact List.mem_cons_of_mem _ (List.mem_append_left _ (weightsAll_mem _ _ (List.mem_map.2 ⟨_, List.getElem_mem _, rfl⟩) n hn)))
      obtain ⟨cs, hc, ht⟩ := Option.bind_eq_some_iff.1 he
      obtain ⟨_, hcl, hcc⟩ := World.cells?_some hc
      obtain ⟨y0, y1, m, hy, _, h0, h1⟩ := trod_struct2 Tryd.underlying33 ht
      match cs, hcl with
      | [c0, c1], _ =>
        have e0 : Tryd.prog.cellsOf 9 = 1 := by kernel_rfl
        simp [e0] at h0 h1
        obtain ⟨x0, q0, e00, s0⟩ := DataW.trod_string Tryd.underlying9 h0
        obtain ⟨x1, q1, e01, s1⟩ := DataW.trod_string Tryd.underlying9 h1
        simp at q0 q1
        subst q0 q1
        have hw2 : x0.data.toList.length ≤ reachBytes ∧ x1.data.toList.length ≤ reachBytes := by
          rw [hy, e00, e01] at hel2
          rw [DataW.weights, Tryd.underlying33] at hel2
          constructor
          · exact hel2 _ (by simp [DataW.weightsEach, DataW.weights])
          · exact hel2 _ (by simp [DataW.weightsEach, DataW.weights])
        simp only [reachBytes] at hw2
        have g0 := hcc 0 (by omega)
        have g1 := hcc 1 (by omega)
        have b0 : bs x0.data.toList = x0 := by cases x0; simp [bs]
        have b1 : bs x1.data.toList = x1 := by cases x1; simp [bs]
        exact ⟨(x0.data.toList, x1.data.toList), by rw [b0]; simpa [Addr.add] using g0, by rw [b1]; simpa [Addr.add] using g1, Nat.le_trans hw2.1 (by decide), Nat.le_trans hw2.2 (by decide)⟩
    have hch : ∃ f : Nat → FL, ∀ i, i < len → W.cell? (a.add (i * 2)) = some (.string (bs (f i).1)) ∧ W.cell? ((a.add (i * 2)).add 1) = some (.string (bs (f i).2)) ∧ (f i).1.length ≤ 140737488355328 ∧ (f i).2.length ≤ 140737488355328 := by
      refine ⟨fun i => if hi : i < len then (key i hi).choose else ([], []), fun i hi => ?_⟩
      simp only [hi, dif_pos]
      exact (key i hi).choose_spec
    obtain ⟨f, hf⟩ := hch
    refine ⟨some a, len, cap, (List.range len).map f, rfl, ⟨by simp, hl, fun hp => ?_⟩, fun x hx => ?_⟩
    · have hsp : a.spot = none := by
        have g := (hf 0 hp).1
        simp only [Nat.zero_mul, Addr.add, if_true] at g
        unfold World.cell? at g
        split at g
        · split at g
          · cases g
          · rename_i hs; simpa using hs
        · cases g
      obtain ⟨blk, off, sp⟩ := a
      simp only at hsp
      subst hsp
      refine ⟨blk, off, rfl, fun i x hx => ?_⟩
      have hi : i < len := by have := (List.getElem?_eq_some_iff.1 hx).1; simpa using this
      rw [List.getElem?_map, List.getElem?_range hi] at hx
      simp only [Option.map_some, Option.some.injEq] at hx
      subst hx
      have h2 := hf i hi
      rw [addr_add, addr_add] at h2
      exact ⟨h2.1, h2.2.1⟩
    · obtain ⟨i, hi, rfl⟩ := List.mem_map.1 hx
      exact (hf i (List.mem_range.1 hi)).2.2
end Go.Proofs.YtjppfdilfcokeaaDoor
