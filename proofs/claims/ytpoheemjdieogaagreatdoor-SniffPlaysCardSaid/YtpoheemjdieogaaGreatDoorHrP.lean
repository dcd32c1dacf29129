/-
  The plain law that the document's authority of HTTP is what http.Look reads. No condition. The plain law that the document's first line of HTTP is what http.Look reads. No condition. The plain law that the document's look of HTTP is what http.Look tells, for at most 90,000 bytes. The walk of the document's Look of package sniff (at most 90,000 bytes): it tells what sniff.Look tells. No condition.
-/
import Derived.Test.YtpoheemjdieogaaGreatDoorHrG
import Derived.Test.YtpoheemjdieogaaGreatDoorHttpC
import Derived.Test.YtpoheemjdieogaaGreatDoorHrL
import Derived.Test.YtpoheemjdieogaaGreatDoorSnW
import Derived.Test.YtpoheemjdieogaaGreatDoorTrL
namespace Go.Proofs.YtpoheemjdieogaaGreatDoor
open Go.Lib
set_option linter.unusedVariables false
set_option linter.unusedSimpArgs false

/-- the reading ends wrong, or within x -/
def InS {α : Type} (x t : List UInt8) (e : RH α) : Prop := e = .error 3 ∨ ∃ a y x1 x2, x = x1 ++ y :: x2 ∧ e = .ok (a, y :: (x2 ++ t))
theorem split_at (p : UInt8 → Bool) : ∀ l : List UInt8, l.all p = true ∨ ∃ u y v, l = u ++ y :: v ∧ u.all p = true ∧ p y = false
  | [] => .inl rfl
  | c :: l => by
    cases hc : p c with
    | false => exact .inr ⟨[], c, l, rfl, rfl, hc⟩
    | true =>
      rcases split_at p l with h | ⟨u, y, v, rfl, h1, h2⟩
      · exact .inl (by rw [List.all_cons, hc, h]; rfl)
      · exact .inr ⟨c :: u, y, v, rfl, by rw [List.all_cons, hc, h1]; rfl, h2⟩
theorem run_all (p : UInt8 → Bool) : ∀ u : List UInt8, u.all p = true → runH p u = .error 0
  | [], _ => rfl
  | c :: u, h => by
    rw [List.all_cons, Bool.and_eq_true] at h
    simp only [runH, h.1, if_true, run_all p u h.2, bindH_err]
theorem run_stop (p : UInt8 → Bool) : ∀ (u : List UInt8) (d : UInt8) (r : List UInt8), u.all p = true → p d = false → runH p (u ++ d :: r) = .ok (u, d :: r)
  | [], d, r, _, hd => by simp [runH, hd]
  | c :: u, d, r, h, hd => by
    rw [List.all_cons, Bool.and_eq_true] at h
    simp only [List.cons_append, runH, h.1, if_true, run_stop p u d r h.2 hd, bindH_ok]

/-! a host's bytes -/
def okN : List UInt8 → List UInt8 → Bool
  | _, [] => true
  | name, c :: u => !decide (c = 46 ∧ (dotE name = true ∨ name.length = 252) ∨ 253 ≤ name.length) && okN (name ++ [c]) u
theorem name_end : ∀ (u name : List UInt8), u.all hostB = true → nameH name u = if okN name u = true then .error 0 else .error 3
  | [], name, _ => by simp [nameH, okN]
  | c :: u, name, h => by
    rw [List.all_cons, Bool.and_eq_true] at h
    simp only [nameH, h.1, if_true]
    by_cases h2 : c = 46 ∧ (dotE name = true ∨ name.length = 252) ∨ 253 ≤ name.length
    · rw [if_pos h2, if_neg (by simp [okN, h2])]
    · rw [if_neg h2, name_end u _ h.2]
      simp [okN, h2]
theorem name_stop : ∀ (u name : List UInt8) (d : UInt8) (r : List UInt8), u.all hostB = true → hostB d = false → nameH name (u ++ d :: r) = if okN name u = true ∧ dotE (name ++ u) = false then .ok (name ++ u, d :: r) else .error 3
  | [], name, d, r, _, hd => by
    simp only [List.nil_append, nameH, hd, okN, List.append_nil]
    cases dotE name <;> simp
  | c :: u, name, d, r, h, hd => by
    rw [List.all_cons, Bool.and_eq_true] at h
    simp only [List.cons_append, nameH, h.1, if_true]
    by_cases h2 : c = 46 ∧ (dotE name = true ∨ name.length = 252) ∨ 253 ≤ name.length
    · rw [if_pos h2, if_neg (by simp [okN, h2])]
    · rw [if_neg h2, name_stop u _ d r h.2 hd]
      simp [okN, h2]
theorem okN_iff : ∀ (u name : List UInt8), u.all hostB = true → (okN name u = true ↔ scanB (dotE name) u = true ∧ (u = [] ∨ name.length + u.length ≤ 253) ∧ ¬ (name.length ≤ 252 ∧ u[252 - name.length]? = some 46))
  | [], name, _ => by simp [okN, scanB]
  | c :: u, name, h => by
    rw [List.all_cons, Bool.and_eq_true] at h
    have ih := okN_iff u (name ++ [c]) h.2
    rw [dotE_snoc, List.length_append, List.length_singleton] at ih
    simp only [okN, scanB, h.1, Bool.true_and, Bool.and_eq_true, ih, Bool.not_eq_true', decide_eq_false_iff_not, Bool.and_eq_false_iff, List.length_cons, List.cons_ne_nil, false_or, reduceCtorEq]
    by_cases h1 : 253 ≤ name.length
    · constructor
      · rintro ⟨g, _⟩; exact absurd (.inr h1) g
      · rintro ⟨_, g, _⟩; omega
    by_cases h2 : name.length = 252
    · have e1 : 252 - name.length = 0 := by omega
      rw [e1]
      simp only [List.getElem?_cons_zero, Option.some.injEq]
      constructor
      · rintro ⟨g, g1, g2, g3⟩
        refine ⟨⟨?_, g1⟩, ?_, ?_⟩
        · by_cases hc : c = 46
          · exact absurd (.inl ⟨hc, .inr h2⟩) g
          · exact .inl hc
        · rcases g2 with rfl | g2
          · simp; omega
          · omega
        · rintro ⟨_, hc⟩; exact g (.inl ⟨hc, .inr h2⟩)
      · rintro ⟨⟨g0, g1⟩, g2, g3⟩
        refine ⟨?_, g1, ?_, ?_⟩
        · rintro (⟨hc, _⟩ | hc)
          · exact g3 ⟨by omega, hc⟩
          · exact h1 hc
        · exact .inl (List.length_eq_zero_iff.1 (by omega))
        · rintro ⟨hc, _⟩; omega
    · obtain ⟨k, hk⟩ : ∃ k, 252 - name.length = k + 1 := ⟨252 - name.length - 1, by omega⟩
      have hk2 : 252 - (name.length + 1) = k := by omega
      rw [hk, hk2, List.getElem?_cons_succ]
      constructor
      · rintro ⟨g, g1, g2, g3⟩
        refine ⟨⟨?_, g1⟩, ?_, ?_⟩
        · by_cases hc : c = 46
          · refine .inr ?_
            cases hd : dotE name with
            | false => rfl
            | true => exact absurd (.inl ⟨hc, .inl hd⟩) g
          · exact .inl hc
        · rcases g2 with rfl | g2
          · simp; omega
          · omega
        · rintro ⟨hc, hc2⟩; exact g3 ⟨by omega, hc2⟩
      · rintro ⟨⟨g0, g1⟩, g2, g3⟩
        refine ⟨?_, g1, .inr (by omega), ?_⟩
        · rintro (⟨hc, hc2 | hc2⟩ | hc)
          · rcases g0 with g0 | g0
            · exact g0 hc
            · rw [hc2] at g0; cases g0
          · exact h2 hc2
          · exact h1 hc
        · rintro ⟨hc, hc2⟩; exact g3 ⟨by omega, hc2⟩
theorem begins_iff (u : List UInt8) (h : u.all hostB = true) : beginsR u = okN [] u := by
  rw [Bool.eq_iff_iff, okN_iff u [] h]
  have hd : dotE ([] : List UInt8) = true := rfl
  rw [hd]
  simp only [beginsR, Bool.and_eq_true, Bool.not_eq_true', Bool.or_eq_false_iff, decide_eq_false_iff_not, Bool.and_eq_false_iff, List.length_nil, Nat.zero_add, Nat.sub_zero, Nat.zero_le, true_and]
  constructor
  · rintro ⟨⟨g1, g2⟩, g3⟩
    refine ⟨g3, .inr (by omega), fun hc => ?_⟩
    rcases g2 with g2 | g2
    · have : 252 < u.length := (List.getElem?_eq_some_iff.1 hc).1
      omega
    · exact g2 hc
  · rintro ⟨g1, g2, g3⟩
    refine ⟨⟨?_, .inr g3⟩, g1⟩
    rcases g2 with rfl | g2
    · simp
    · omega
theorem empty_scan : ∀ (u name : List UInt8), u.all hostB = true → (emptyP (dotE name) u = false ↔ scanB (dotE name) u = true ∧ dotE (name ++ u) = false)
  | [], name, _ => by simp [emptyP, scanB]
  | c :: u, name, h => by
    rw [List.all_cons, Bool.and_eq_true] at h
    have ih := empty_scan u (name ++ [c]) h.2
    rw [dotE_snoc, List.append_assoc, List.singleton_append] at ih
    simp only [emptyP, scanB, h.1, Bool.true_and]
    by_cases hc : c = 46
    · simp only [hc, decide_true, if_true, Bool.true_and, Bool.or_eq_false_iff, Bool.and_eq_true, Bool.not_eq_true'] at ih ⊢
      rw [ih]
      exact and_assoc.symm
    · simp only [hc, decide_false, if_false, Bool.false_and, Bool.not_false, Bool.true_and, Bool.false_eq_true] at ih ⊢
      exact ih
theorem fold_iff (u : List UInt8) (h : u.all hostB = true) : foldA u = if okN [] u = true ∧ dotE u = false then some (u.map lowerB) else none := by
  have hd : dotE ([] : List UInt8) = true := rfl
  have he := empty_scan u [] h
  have ho := okN_iff u [] h
  rw [hd] at he ho
  simp only [List.nil_append, List.length_nil, Nat.zero_add, Nat.sub_zero, Nat.zero_le, true_and] at he ho
  by_cases hk : okN [] u = true ∧ dotE u = false
  · rw [if_pos hk]
    obtain ⟨g1, g2, g3⟩ := ho.1 hk.1
    have hne : u ≠ [] := by rintro rfl; exact absurd hk.2 (by rw [hd]; simp)
    refine foldA_of hne ?_ (he.2 ⟨g1, hk.2⟩) fun b hb => host_good (List.all_eq_true.1 h b hb)
    rcases g2 with g2 | g2
    · exact absurd g2 hne
    · exact g2
  · rw [if_neg hk]
    cases hf : foldA u with
    | none => rfl
    | some l =>
      exfalso
      obtain ⟨f1, f2, f3, f4, f5⟩ := foldA_some hf
      obtain ⟨g1, g2⟩ := he.1 f3
      refine hk ⟨ho.2 ⟨g1, .inr f2, fun hc => ?_⟩, g2⟩
      have h252 : 252 < u.length := (List.getElem?_eq_some_iff.1 hc).1
      have hl : u.getLast? = some 46 := by
        rw [List.getLast?_eq_getElem?, show u.length - 1 = 252 by omega]; exact hc
      obtain ⟨v, hv⟩ : ∃ v, u = v ++ [46] := by
        rcases List.eq_nil_or_concat u with h0 | ⟨v, a, h0⟩
        · exact absurd h0 f1
        · rw [h0] at hl
          simp at hl
          exact ⟨v, by rw [h0, hl]; simp⟩
      rw [hv, dotE_snoc] at g2
      simp at g2
theorem foldN_of {u l : List UInt8} (h : foldA u = some l) : foldN u = l := by unfold foldN; rw [h]; rfl

/-! a port -/
theorem fold_ge : ∀ (q : List UInt8) (n : Nat), n ≤ q.foldl (fun n x => 10 * n + (x.toNat - 48)) n
  | [], n => Nat.le_refl _
  | c :: q, n => by
    rw [List.foldl_cons]
    have := fold_ge q (10 * n + (c.toNat - 48))
    omega
def okP (n many : Nat) (q : List UInt8) : Bool := decide (q = [] ∨ (many + q.length ≤ 5 ∧ q.foldl (fun n x => 10 * n + (x.toNat - 48)) n ≤ 65535))
theorem okP_cons {c : UInt8} {q : List UInt8} {n many : Nat} (hn : ¬ (5 ≤ many ∨ 65535 < 10 * n + (c.toNat - 48))) : okP n many (c :: q) = okP (10 * n + (c.toNat - 48)) (many + 1) q := by
  unfold okP
  rw [decide_eq_decide]
  simp only [List.cons_ne_nil, false_or, List.length_cons, List.foldl_cons, reduceCtorEq]
  constructor
  · rintro ⟨h1, h2⟩; exact .inr ⟨by omega, h2⟩
  · rintro (rfl | ⟨h1, h2⟩)
    · exact ⟨by simp; omega, by simp only [List.foldl_nil]; omega⟩
    · exact ⟨by omega, h2⟩
theorem okP_not {c : UInt8} {q : List UInt8} {n many : Nat} (hn : 5 ≤ many ∨ 65535 < 10 * n + (c.toNat - 48)) : okP n many (c :: q) = false := by
  unfold okP
  rw [decide_eq_false_iff_not]
  simp only [List.cons_ne_nil, false_or, List.length_cons, List.foldl_cons, reduceCtorEq]
  have := fold_ge q (10 * n + (c.toNat - 48))
  rintro ⟨h1, h2⟩
  omega
theorem port_end : ∀ (q : List UInt8) (n many : Nat), q.all digB = true → portH n many q = if okP n many q = true then .error 0 else .error 3
  | [], n, many, _ => by simp [portH, okP]
  | c :: q, n, many, h => by
    rw [List.all_cons, Bool.and_eq_true] at h
    simp only [portH, h.1, if_true]
    by_cases h2 : 5 ≤ many ∨ 65535 < 10 * n + (c.toNat - 48)
    · rw [if_pos h2, okP_not h2]; simp
    · rw [if_neg h2, port_end q _ _ h.2, okP_cons h2]
theorem port_stop : ∀ (q : List UInt8) (n many : Nat) (d : UInt8) (r : List UInt8), q.all digB = true → digB d = false → portH n many (q ++ d :: r) = if okP n many q = true then .ok ((), d :: r) else .error 3
  | [], n, many, d, r, _, hd => by simp [portH, okP, hd]
  | c :: q, n, many, d, r, h, hd => by
    rw [List.all_cons, Bool.and_eq_true] at h
    simp only [List.cons_append, portH, h.1, if_true]
    by_cases h2 : 5 ≤ many ∨ 65535 < 10 * n + (c.toNat - 48)
    · rw [if_pos h2, okP_not h2]; simp
    · rw [if_neg h2, port_stop q _ _ d r h.2 hd, okP_cons h2]
theorem portR_dig {e : UInt8} {q : List UInt8} (he : digB e = true) (hq : q.all digB = true) : portR (e :: q) = okP (e.toNat - 48) 1 q := by
  have hd : 48 ≤ e.toNat ∧ e.toNat ≤ 57 := by unfold digB at he; simpa using he
  unfold portR okP valN
  rw [List.all_cons, he, hq, Bool.true_and, Bool.true_and, Bool.eq_iff_iff]
  simp only [Bool.and_eq_true, decide_eq_true_eq, List.length_cons, List.foldl_cons, Nat.mul_zero, Nat.zero_add]
  constructor
  · rintro ⟨h1, h2⟩; exact .inr ⟨by omega, h2⟩
  · rintro (rfl | ⟨h1, h2⟩)
    · simp; omega
    · exact ⟨by omega, h2⟩
theorem portR_not {p : List UInt8} (h : p.all digB = false) : portR p = false := by unfold portR; rw [h]; rfl

/-! parts -/
theorem partsR_none {x : List UInt8} (h : ∀ c ∈ x, ¬ c = 58) : partsR x = (x, [], false) := by
  unfold partsR
  rw [take_all h, if_neg (by omega)]
theorem partsR_some {u p : List UInt8} (h : ∀ c ∈ u, ¬ c = 58) : partsR (u ++ 58 :: p) = (u, p, true) := by
  unfold partsR
  rw [take_at_c h, if_pos (by simp)]
  simp
theorem host_58 {u : List UInt8} (h : u.all hostB = true) : ∀ c ∈ u, ¬ c = 58 := fun c hc h58 => by
  have := List.all_eq_true.1 h c hc
  rw [h58] at this
  exact absurd this (by decide)
theorem host_dig {d : UInt8} (h : hostB d = false) : digB d = false := by
  unfold hostB at h
  simp only [Bool.or_eq_false_iff] at h
  exact h.1.1.1.2
set_option maxRecDepth 100000 in
theorem good_hr0 : ∀ i : Fin 256, goodU (UInt8.ofNat i.val) = hostB (UInt8.ofNat i.val) := by decide
theorem good_hr (c : UInt8) : goodU c = hostB c := by
  have := good_hr0 ⟨c.toNat, c.toNat_lt⟩
  simpa only [UInt8.ofNat_toNat] using this
/-- a text with a byte that is no host's ahead of any colon is no authority, nor begins one -/
theorem fold_bad {x : List UInt8} {y : UInt8} (hm : y ∈ x) (hy : hostB y = false) : foldA x = none := by
  cases hf : foldA x with
  | none => rfl
  | some l =>
    have := (foldA_some hf).2.2.2.1 y hm
    rw [good_hr, hy] at this
    cases this
theorem scan_all : ∀ (u : List UInt8) (a : Bool), scanB a u = true → u.all hostB = true
  | [], _, _ => rfl
  | c :: u, a, h => by
    simp only [scanB, Bool.and_eq_true] at h
    rw [List.all_cons, h.1.1, scan_all u _ h.2]; rfl
theorem begins_bad {x : List UInt8} {y : UInt8} (hm : y ∈ x) (hy : hostB y = false) : beginsR x = false := by
  cases hb : beginsR x with
  | false => rfl
  | true =>
    unfold beginsR at hb
    rw [Bool.and_eq_true] at hb
    have := List.all_eq_true.1 (scan_all _ _ hb.2) y hm
    rw [hy] at this
    cases this
theorem parts_bad {u v : List UInt8} {y : UInt8} (hu : u.all hostB = true) (h58 : ¬ y = 58) : y ∈ (partsR (u ++ y :: v)).1 := by
  unfold partsR
  have ht : (u ++ y :: v).takeWhile (fun x => !(x == 58)) = u ++ (y :: v).takeWhile (fun x => !(x == 58)) := List.takeWhile_append_of_pos fun a ha => by
    have := host_58 hu a ha
    simpa using this
  have hm : y ∈ (u ++ y :: v).takeWhile (fun x => !(x == 58)) := by
    rw [ht, List.takeWhile_cons, if_pos (by simpa using h58)]; simp
  split
  · exact hm
  · simp
theorem auth_bad {u v : List UInt8} {y : UInt8} (hu : u.all hostB = true) (hy : hostB y = false) (h58 : ¬ y = 58) : authV (u ++ y :: v) = ([], false) ∧ beginAR (u ++ y :: v) = false := by
  have hm := parts_bad (v := v) hu h58
  have hf := fold_bad hm hy
  have hb := begins_bad hm hy
  refine ⟨?_, ?_⟩
  · unfold authV authR
    rw [hf]
  · unfold beginAR
    rw [hf, hb]
    split <;> rfl
theorem authV_none {u : List UInt8} (hu : u.all hostB = true) : authV u = match foldA u with | none => ([], false) | some nm => (nm, true) := by
  unfold authV authR
  rw [partsR_none (host_58 hu)]
  dsimp only
  cases foldA u with
  | none => rfl
  | some nm => simp
theorem authV_some {u p : List UInt8} (hu : u.all hostB = true) : authV (u ++ 58 :: p) = match foldA u with | none => ([], false) | some nm => if p = [] ∨ portR p = false then ([], false) else (nm, true) := by
  unfold authV authR
  rw [partsR_some (host_58 hu)]
  dsimp only
  cases foldA u with
  | none => rfl
  | some nm =>
    dsimp only
    by_cases h : p = [] ∨ portR p = false
    · rw [if_pos ⟨rfl, h⟩, if_pos h]
    · rw [if_neg (by rintro ⟨_, g⟩; exact h g), if_neg h]
theorem beginAR_none {u : List UInt8} (hu : u.all hostB = true) : beginAR u = beginsR u := by
  unfold beginAR
  rw [partsR_none (host_58 hu)]
  simp
theorem beginAR_some {u p : List UInt8} (hu : u.all hostB = true) : beginAR (u ++ 58 :: p) = ((foldA u).isSome && portR p) := by
  unfold beginAR
  rw [partsR_some (host_58 hu)]
  simp

/-! the authority -/
theorem auth_name {u : List UInt8} {d : UInt8} {r : List UInt8} (hu : u.all hostB = true) (hd : hostB d = false) : authH (u ++ d :: r) = match foldA u with
    | none => .error 3
    | some nm => if d = 58 then bindH (nextH digB r) fun e r => bindH (portH (e.toNat - 48) 1 r) fun _ r => .ok (nm, r) else .ok (nm, d :: r) := by
  unfold authH
  rw [name_stop u [] d r hu hd, List.nil_append, fold_iff u hu]
  by_cases hk : okN [] u = true ∧ dotE u = false
  · rw [if_pos hk, if_pos hk, bindH_ok]
    have hfn : foldN u = u.map lowerB := foldN_of (by rw [fold_iff u hu, if_pos hk])
    dsimp only
    rw [peekH, bindH_ok, hfn]
    by_cases h58 : d = 58
    · rw [if_pos h58, if_pos h58, h58]
      rw [show nextH (fun x => x == 58) (58 :: r) = .ok (58, r) from by simp [nextH], bindH_ok]
    · rw [if_neg h58, if_neg h58]
  · rw [if_neg hk, if_neg hk, bindH_err]
theorem auth_line (x : List UInt8) (d : UInt8) (r : List UInt8) (hd : hostB d = false) (h58 : ¬ d = 58) :
    (∃ nm, authV x = (nm, true) ∧ nm ≠ [] ∧ authH (x ++ d :: r) = .ok (nm, d :: r)) ∨ ((authV x).2 = false ∧ InS x (d :: r) (authH (x ++ d :: r))) := by
  rcases split_at hostB x with hu | ⟨u, y, v, rfl, hu, hy⟩
  · rw [authV_none hu, auth_name hu hd]
    cases hf : foldA x with
    | none => exact .inr ⟨rfl, .inl rfl⟩
    | some nm =>
      refine .inl ⟨nm, rfl, ?_, by dsimp only; rw [if_neg h58]⟩
      obtain ⟨f1, _, _, _, f5⟩ := foldA_some hf
      rw [f5]
      simpa using f1
  · rw [List.append_assoc, List.cons_append, auth_name hu hy]
    by_cases hy58 : y = 58
    · subst hy58
      rw [authV_some hu]
      cases hf : foldA u with
      | none => exact .inr ⟨rfl, .inl rfl⟩
      | some nm =>
        dsimp only
        rw [if_pos rfl]
        have hne : nm ≠ [] := by
          obtain ⟨f1, _, _, _, f5⟩ := foldA_some hf
          rw [f5]
          simpa using f1
        cases v with
        | nil => exact .inr ⟨by rw [if_pos (.inl rfl)], .inl (by simp [nextH, host_dig hd, bindH])⟩
        | cons e q =>
          cases he : digB e with
          | false =>
            refine .inr ⟨?_, .inl (by simp [nextH, he, bindH])⟩
            rw [if_pos (.inr (portR_not (by rw [List.all_cons, he]; rfl)))]
          | true =>
            rw [List.cons_append, show nextH digB (e :: (q ++ d :: r)) = .ok (e, q ++ d :: r) from by simp [nextH, he], bindH_ok]
            rcases split_at digB q with hq | ⟨q1, y, q2, rfl, hq, hyd⟩
            · rw [portR_dig he hq, port_stop q _ _ d r hq (host_dig hd)]
              cases hp : okP (e.toNat - 48) 1 q with
              | true => exact .inl ⟨nm, by simp, hne, by simp [bindH]⟩
              | false => exact .inr ⟨by simp, .inl (by simp [bindH])⟩
            · refine .inr ⟨by rw [if_pos (.inr (portR_not (by simp [hyd])))], ?_⟩
              rw [List.append_assoc, List.cons_append, port_stop q1 _ _ y (q2 ++ d :: r) hq hyd]
              cases hp : okP (e.toNat - 48) 1 q1 with
              | true => exact .inr ⟨nm, y, u ++ 58 :: e :: q1, q2, by simp, by simp [bindH]⟩
              | false => exact .inl (by simp [bindH])
    · rw [(auth_bad hu hy hy58).1]
      refine .inr ⟨rfl, ?_⟩
      cases hf : foldA u with
      | none => exact .inl rfl
      | some nm =>
        dsimp only
        rw [if_neg hy58]
        exact .inr ⟨nm, y, u, v, rfl, rfl⟩
theorem auth_end (x : List UInt8) : (beginAR x = true ∧ authH x = .error 0) ∨ (beginAR x = false ∧ InS x [] (authH x)) := by
  rcases split_at hostB x with hu | ⟨u, y, v, rfl, hu, hy⟩
  · rw [beginAR_none hu, begins_iff x hu]
    unfold authH
    rw [name_end x [] hu]
    cases okN [] x with
    | true => exact .inl ⟨rfl, rfl⟩
    | false => exact .inr ⟨rfl, .inl rfl⟩
  · rw [auth_name hu hy]
    by_cases hy58 : y = 58
    · subst hy58
      rw [beginAR_some hu]
      cases hf : foldA u with
      | none => exact .inr ⟨rfl, .inl rfl⟩
      | some nm =>
        dsimp only [Option.isSome]
        rw [if_pos rfl, Bool.true_and]
        cases v with
        | nil => exact .inl ⟨rfl, rfl⟩
        | cons e q =>
          cases he : digB e with
          | false => exact .inr ⟨portR_not (by rw [List.all_cons, he]; rfl), .inl (by simp [nextH, he, bindH])⟩
          | true =>
            rw [show nextH digB (e :: q) = .ok (e, q) from by simp [nextH, he], bindH_ok]
            rcases split_at digB q with hq | ⟨q1, y, q2, rfl, hq, hyd⟩
            · rw [portR_dig he hq, port_end q _ _ hq]
              cases hp : okP (e.toNat - 48) 1 q with
              | true => exact .inl ⟨rfl, by simp [bindH]⟩
              | false => exact .inr ⟨rfl, .inl (by simp [bindH])⟩
            · refine .inr ⟨portR_not (by simp [hyd]), ?_⟩
              rw [port_stop q1 _ _ y q2 hq hyd]
              cases hp : okP (e.toNat - 48) 1 q1 with
              | true => exact .inr ⟨nm, y, u ++ 58 :: e :: q1, q2, by simp, by simp [bindH]⟩
              | false => exact .inl (by simp [bindH])
    · rw [(auth_bad hu hy hy58).2]
      refine .inr ⟨rfl, ?_⟩
      cases hf : foldA u with
      | none => exact .inl rfl
      | some nm =>
        dsimp only
        rw [if_neg hy58]
        exact .inr ⟨nm, y, u, v, rfl, by simp⟩
/-- what is an authority begins one -/
theorem auth_begins {x : List UInt8} (h : (authV x).2 = true) : beginAR x = true := by
  rcases auth_end x with ⟨h1, _⟩ | ⟨h1, h2⟩
  · exact h1
  · exfalso
    rcases auth_line x 13 [] (by decide) (by decide) with ⟨nm, g1, g2, g3⟩ | ⟨g1, _⟩
    · have hs := stable_auth x [13]
      rcases h2 with h2 | ⟨a, y, x1, x2, rfl, h2⟩
      · rw [hs.2.1 3 h2 (by decide)] at g3
        cases g3
      · rw [hs.1 _ _ h2] at g3
        have := congrArg (fun z : RH (List UInt8) => match z with | .ok (_, r) => r.length | _ => 0) g3
        simp at this
    · rw [g1] at h
      cases h
/-- each byte of what begins an authority is one that may be in a value -/
theorem begins_shown {x : List UInt8} (h : beginAR x = true) : x.all shownB = true := by
  have hh : ∀ c, hostB c = true → shownB c = true := fun c hc => by
    have : 45 ≤ c.toNat ∧ c.toNat < 127 := by
      unfold hostB capB smallB digB at hc
      simp at hc
      omega
    unfold shownB seenB
    simp
    omega
  rcases split_at hostB x with hu | ⟨u, y, v, rfl, hu, hy⟩
  · exact List.all_eq_true.2 fun c hc => hh c (List.all_eq_true.1 hu c hc)
  · by_cases hy58 : y = 58
    · subst hy58
      rw [beginAR_some hu, Bool.and_eq_true] at h
      have hp : v.all digB = true := by
        cases hv : v.all digB with
        | true => rfl
        | false => rw [portR_not hv] at h; exact absurd h.2 (by simp)
      rw [List.all_append, List.all_cons, Bool.and_eq_true, Bool.and_eq_true]
      refine ⟨List.all_eq_true.2 fun c hc => hh c (List.all_eq_true.1 hu c hc), by decide, List.all_eq_true.2 fun c hc => hh c ?_⟩
      have := List.all_eq_true.1 hp c hc
      unfold hostB
      rw [this]
      simp
    · rw [(auth_bad hu hy hy58).2] at h
      cases h
end Go.Proofs.YtpoheemjdieogaaGreatDoor

namespace Go.Proofs.YtpoheemjdieogaaGreatDoor
open Go.Lib
set_option linter.unusedVariables false
set_option linter.unusedSimpArgs false

theorem prefR_iff (s t : List UInt8) : prefR s t = true ↔ s <+: t := by
  unfold prefR
  rw [Bool.and_eq_true, decide_eq_true_eq, beq_iff_eq, List.prefix_iff_eq_take]
  constructor
  · rintro ⟨_, h⟩; exact h.symm
  · intro h
    refine ⟨?_, h.symm⟩
    have := congrArg List.length h
    rw [List.length_take] at this
    omega
theorem text_end : ∀ s x : List UInt8, (∃ x', x = s ++ x' ∧ textH s x = .ok ((), x')) ∨ (¬ s <+: x ∧ x <+: s ∧ textH s x = .error 0) ∨ (¬ s <+: x ∧ ¬ x <+: s ∧ textH s x = .error 3)
  | [], x => .inl ⟨x, rfl, rfl⟩
  | c :: s, [] => .inr (.inl ⟨by simp, by simp, rfl⟩)
  | c :: s, d :: x => by
    by_cases hc : d = c
    · subst hc
      have ht : textH (d :: s) (d :: x) = textH s x := by simp [textH, nextH, bindH]
      rw [ht]
      simp only [List.cons_prefix_cons, true_and]
      rcases text_end s x with ⟨x', rfl, h⟩ | h | h
      · exact .inl ⟨x', rfl, h⟩
      · exact .inr (.inl h)
      · exact .inr (.inr h)
    · have hc' : (d == c) = false := by simpa using hc
      refine .inr (.inr ⟨?_, ?_, by simp [textH, nextH, hc', bindH]⟩)
      · rw [List.cons_prefix_cons]; rintro ⟨h, _⟩; exact hc h.symm
      · rw [List.cons_prefix_cons]; rintro ⟨h, _⟩; exact hc h
theorem text_line : ∀ (s x : List UInt8) (d : UInt8) (r : List UInt8), d ∉ s → (∃ x', x = s ++ x' ∧ textH s (x ++ d :: r) = .ok ((), x' ++ d :: r)) ∨ (¬ s <+: x ∧ textH s (x ++ d :: r) = .error 3)
  | [], x, d, r, _ => .inl ⟨x, rfl, rfl⟩
  | c :: s, [], d, r, h => by
    have hc' : (d == c) = false := by simp only [List.mem_cons, not_or] at h; simpa using h.1
    exact .inr ⟨by simp, by simp [textH, nextH, hc', bindH]⟩
  | c :: s, e :: x, d, r, h => by
    by_cases hc : e = c
    · subst hc
      have ht : textH (e :: s) (e :: x ++ d :: r) = textH s (x ++ d :: r) := by simp [textH, nextH, bindH]
      rw [ht]
      simp only [List.cons_prefix_cons, true_and]
      rcases text_line s x d r (fun g => h (List.mem_cons_of_mem _ g)) with ⟨x', rfl, h⟩ | h
      · exact .inl ⟨x', rfl, h⟩
      · exact .inr h
    · have hc' : (e == c) = false := by simpa using hc
      refine .inr ⟨?_, by simp [textH, nextH, hc', bindH]⟩
      rw [List.cons_prefix_cons]; rintro ⟨h, _⟩; exact hc h.symm

/-! a target -/
def orN (name : List UInt8) : Option (List UInt8) := if name = [] then none else some name
theorem stop_host {s : UInt8} (h : stopT s = true) : hostB s = false ∧ ¬ s = 58 ∧ (s = 47 ∨ s = 63) := by
  unfold stopT at h
  simp only [Bool.or_eq_true, beq_iff_eq] at h
  rcases h with rfl | rfl <;> decide
/-- a text up to a '/' or '?' -/
theorem head_split (R : List UInt8) : ∃ X z, R = X ++ z ∧ headT R = X.length ∧ R.take (headT R) = X ∧ R.drop (headT R) = z ∧ (∀ y ∈ X, stopT y = false) ∧ (z = [] ∨ ∃ s z', z = s :: z' ∧ stopT s = true) := by
  have ht : R.takeWhile (fun c => !stopT c) ++ R.dropWhile (fun c => !stopT c) = R := List.takeWhile_append_dropWhile
  have hl : R.take (headT R) = R.takeWhile (fun c => !stopT c) := (List.prefix_iff_eq_take.1 (List.takeWhile_prefix _)).symm
  refine ⟨R.takeWhile (fun c => !stopT c), R.dropWhile (fun c => !stopT c), ht.symm, rfl, hl, ?_, ?_, ?_⟩
  · have h2 : R.take (headT R) ++ R.drop (headT R) = R := List.take_append_drop _ _
    rw [hl] at h2
    exact List.append_cancel_left (h2.trans ht.symm)
  · intro y hy
    have h3 := List.all_takeWhile (p := fun c => !stopT c) (l := R)
    have := List.all_eq_true.1 h3 y hy
    simpa using this
  · cases hz : R.dropWhile (fun c => !stopT c) with
    | nil => exact .inl rfl
    | cons s z' =>
      refine .inr ⟨s, z', rfl, ?_⟩
      have := List.head?_dropWhile_not (fun c => !stopT c) R
      rw [hz] at this
      simpa using this
theorem t104 (t l : List UInt8) : targetH (104 :: l) = bindH (textH [116, 116, 112, 58, 47, 47] l) fun _ r => bindH (authH r) fun nm r => bindH (peekH r) fun c r => if c = 47 ∨ c = 63 then bindH (runH seenB r) fun _ r => .ok (some nm, r) else .ok (some nm, r) := rfl
theorem t42 (l : List UInt8) : targetH (42 :: l) = .ok (none, l) := rfl
theorem t47 (l : List UInt8) : targetH (47 :: l) = bindH (runH seenB l) fun _ r => .ok (none, r) := rfl
theorem tno {c : UInt8} (l : List UInt8) (h1 : ¬ c = 42) (h2 : ¬ c = 47) (h3 : ¬ c = 104) : targetH (c :: l) = .error 3 := by
  have hs : starB c = false := by
    unfold starB
    simp only [Bool.or_eq_false_iff, decide_eq_false_iff_not]
    exact ⟨⟨fun h => h1 (UInt8.toNat_inj.1 h), fun h => h2 (UInt8.toNat_inj.1 h)⟩, fun h => h3 (UInt8.toNat_inj.1 h)⟩
  simp [targetH, nextH, hs, bindH]
theorem http7_eq : http7 = 104 :: [116, 116, 112, 58, 47, 47] := rfl
theorem rest_http {c : UInt8} {t : List UInt8} (h : prefR http7 (c :: t) = true) : ∃ R, c = 104 ∧ t = [116, 116, 112, 58, 47, 47] ++ R ∧ (c :: t).drop 7 = R := by
  obtain ⟨R, hR⟩ := (prefR_iff _ _).1 h
  rw [http7_eq, List.cons_append] at hR
  injection hR with h1 h2
  refine ⟨R, h1.symm, h2.symm, ?_⟩
  rw [← h2]; rfl
/-- the reading of what stands behind 'http://' -/
def afterH (l : List UInt8) : RH (Option (List UInt8)) := bindH (authH l) fun nm r => bindH (peekH r) fun c r => if c = 47 ∨ c = 63 then bindH (runH seenB r) fun _ r => .ok (some nm, r) else .ok (some nm, r)
theorem t_after (R : List UInt8) : targetH (104 :: ([116, 116, 112, 58, 47, 47] ++ R)) = afterH R := by
  rw [t104 []]
  rw [text_at, bindH_ok]; rfl
theorem InS.app {α : Type} {x t : List UInt8} {e : RH α} (h : InS x t e) (u : List UInt8) : InS (u ++ x) t e := by
  rcases h with h | ⟨a, y, x1, x2, rfl, h⟩
  · exact .inl h
  · exact .inr ⟨a, y, u ++ x1, x2, by simp, h⟩
theorem run_line (p : UInt8 → Bool) (x : List UInt8) (d : UInt8) (r : List UInt8) (hd : p d = false) : (x.all p = true ∧ runH p (x ++ d :: r) = .ok (x, d :: r)) ∨ (x.all p = false ∧ ∃ a y x1 x2, x = x1 ++ y :: x2 ∧ p y = false ∧ runH p (x ++ d :: r) = .ok (a, y :: (x2 ++ d :: r))) := by
  rcases split_at p x with h | ⟨u, y, v, rfl, h1, h2⟩
  · exact .inl ⟨h, run_stop p x d r h hd⟩
  · refine .inr ⟨by simp [h2], u, y, u, v, rfl, h2, ?_⟩
    rw [List.append_assoc, List.cons_append, run_stop p u y _ h1 h2]
theorem run_end (p : UInt8 → Bool) (x : List UInt8) : (x.all p = true ∧ runH p x = .error 0) ∨ (x.all p = false ∧ ∃ a y x1 x2, x = x1 ++ y :: x2 ∧ p y = false ∧ runH p x = .ok (a, y :: x2)) := by
  rcases split_at p x with h | ⟨u, y, v, rfl, h1, h2⟩
  · exact .inl ⟨h, run_all p x h⟩
  · exact .inr ⟨by simp [h2], u, y, u, v, rfl, h2, run_stop p u y v h1 h2⟩
theorem not_stop {y : UInt8} (h : stopT y = false) : ¬ (y = 47 ∨ y = 63) := by
  unfold stopT at h
  simpa using h
theorem stop_seen {s : UInt8} (h : stopT s = true) : seenB s = true := by
  rcases (stop_host h).2.2 with rfl | rfl <;> decide
theorem after_line (R : List UInt8) (d : UInt8) (r : List UInt8) (hd : d = 13 ∨ d = 32) :
    ((restR R).2.1 = true ∧ afterH (R ++ d :: r) = .ok (orN (restR R).2.2, d :: r)) ∨ ((restR R).2.1 = false ∧ InS R (d :: r) (afterH (R ++ d :: r))) := by
  have hds : seenB d = false := by rcases hd with rfl | rfl <;> decide
  have hdh : hostB d = false := by rcases hd with rfl | rfl <;> decide
  have hd58 : ¬ d = 58 := by rcases hd with rfl | rfl <;> decide
  have hdt : ¬ (d = 47 ∨ d = 63) := by rcases hd with rfl | rfl <;> decide
  obtain ⟨X, z, hR, hl, htk, hdr, hX, hz⟩ := head_split R
  unfold restR
  rw [htk, hdr]
  rcases hz with rfl | ⟨s, z', rfl, hs⟩
  · rw [List.append_nil] at hR
    subst hR
    rw [if_neg (by simp)]
    dsimp only
    unfold afterH
    rcases auth_line R d r hdh hd58 with ⟨nm, g1, g2, g3⟩ | ⟨g1, g2 | ⟨a, y, x1, x2, rfl, g2⟩⟩
    · refine .inl ⟨by rw [g1], ?_⟩
      rw [g3, bindH_ok, peekH, bindH_ok, if_neg hdt, g1]
      unfold orN
      rw [if_neg g2]
    · exact .inr ⟨g1, .inl (by rw [g2, bindH_err])⟩
    · refine .inr ⟨g1, .inr ⟨some a, y, x1, x2, rfl, ?_⟩⟩
      rw [g2, bindH_ok, peekH, bindH_ok, if_neg (not_stop (hX y (by simp)))]
  · obtain ⟨h1, h2, h3⟩ := stop_host hs
    subst hR
    rw [List.append_assoc, List.cons_append]
    unfold afterH
    rcases auth_line X s (z' ++ d :: r) h1 h2 with ⟨nm, g1, g2, g3⟩ | ⟨g1, g2⟩
    · rw [g3, bindH_ok, peekH, bindH_ok, if_pos h3]
      rcases run_line seenB (s :: z') d r hds with ⟨k1, k2⟩ | ⟨k1, a, y, x1, x2, k2, k3, k4⟩
      · rw [List.cons_append] at k2
        rw [k2, bindH_ok, k1, if_neg (by simp), g1]
        refine .inl ⟨rfl, ?_⟩
        unfold orN
        rw [if_neg g2]
      · rw [List.cons_append] at k4
        rw [k4, bindH_ok, k1, if_pos rfl]
        exact .inr ⟨rfl, .inr ⟨some nm, y, X ++ x1, x2, by rw [k2]; simp, rfl⟩⟩
    · have hno : (if (s :: z').all seenB = false then (false, false, []) else ((authV X).2 || (decide (headT (X ++ s :: z') = (X ++ s :: z').length) && beginAR (X ++ s :: z')), (authV X).2, (authV X).1) : Bool × Bool × List UInt8).2.1 = false := by
        split
        · rfl
        · exact g1
      refine .inr ⟨hno, ?_⟩
      rcases g2 with g2 | ⟨a, y, x1, x2, rfl, g2⟩
      · exact .inl (by rw [g2, bindH_err])
      · refine .inr ⟨some a, y, x1, x2 ++ s :: z', by simp, ?_⟩
        rw [g2, bindH_ok, peekH, bindH_ok, if_neg (not_stop (hX y (by simp)))]
        simp
theorem after_end (R : List UInt8) :
    ((restR R).1 = true ∧ afterH R = .error 0) ∨ ((restR R).1 = false ∧ InS R [] (afterH R)) := by
  obtain ⟨X, z, hR, hl, htk, hdr, hX, hz⟩ := head_split R
  unfold restR
  rw [htk, hdr]
  rcases hz with rfl | ⟨s, z', rfl, hs⟩
  · rw [List.append_nil] at hR
    subst hR
    rw [if_neg (by simp), hl, decide_eq_true rfl, Bool.true_and]
    dsimp only
    unfold afterH
    rcases auth_end R with ⟨g1, g2⟩ | ⟨g1, g2⟩
    · exact .inl ⟨by rw [g1, Bool.or_true], by rw [g2, bindH_err]⟩
    · have hv : (authV R).2 = false := by
        cases hv : (authV R).2 with
        | false => rfl
        | true => rw [auth_begins hv] at g1; cases g1
      refine .inr ⟨by rw [hv, g1]; rfl, ?_⟩
      rcases g2 with g2 | ⟨a, y, x1, x2, rfl, g2⟩
      · exact .inl (by rw [g2, bindH_err])
      · refine .inr ⟨some a, y, x1, x2, rfl, ?_⟩
        rw [g2, bindH_ok, peekH, bindH_ok, if_neg (not_stop (hX y (by simp)))]
  · obtain ⟨h1, h2, h3⟩ := stop_host hs
    subst hR
    have hn : decide (headT (X ++ s :: z') = (X ++ s :: z').length) = false := by rw [hl]; simp
    rw [hn, Bool.false_and, Bool.or_false]
    unfold afterH
    rcases auth_line X s z' h1 h2 with ⟨nm, g1, g2, g3⟩ | ⟨g1, g2⟩
    · rw [g3, bindH_ok, peekH, bindH_ok, if_pos h3]
      rcases run_end seenB (s :: z') with ⟨k1, k2⟩ | ⟨k1, a, y, x1, x2, k2, k3, k4⟩
      · rw [k2, bindH_err, k1, if_neg (by simp), g1]
        exact .inl ⟨rfl, rfl⟩
      · rw [k4, bindH_ok, k1, if_pos rfl]
        exact .inr ⟨rfl, .inr ⟨some nm, y, X ++ x1, x2, by rw [k2]; simp, by simp⟩⟩
    · have hno : (if (s :: z').all seenB = false then (false, false, []) else ((authV X).2, (authV X).2, (authV X).1) : Bool × Bool × List UInt8).1 = false := by
        split
        · rfl
        · exact g1
      refine .inr ⟨hno, ?_⟩
      rcases g2 with g2 | ⟨a, y, x1, x2, rfl, g2⟩
      · exact .inl (by rw [g2, bindH_err])
      · refine .inr ⟨some a, y, x1, x2 ++ s :: z', by simp, ?_⟩
        rw [g2, bindH_ok, peekH, bindH_ok, if_neg (not_stop (hX y (by simp)))]
        simp
theorem target_line (x : List UInt8) (d : UInt8) (r : List UInt8) (hd : d = 13 ∨ d = 32) :
    ((targetR x).2.1 = true ∧ targetH (x ++ d :: r) = .ok (orN (targetR x).2.2, d :: r)) ∨ ((targetR x).2.1 = false ∧ InS x (d :: r) (targetH (x ++ d :: r))) := by
  have hds : seenB d = false := by rcases hd with rfl | rfl <;> decide
  cases x with
  | nil => exact .inr ⟨rfl, .inl (tno _ (by rcases hd with rfl | rfl <;> decide) (by rcases hd with rfl | rfl <;> decide) (by rcases hd with rfl | rfl <;> decide))⟩
  | cons c t =>
    unfold targetR
    dsimp only
    by_cases h42 : c = 42
    · subst h42
      rw [if_pos rfl, List.cons_append, t42]
      cases t with
      | nil => exact .inl ⟨rfl, rfl⟩
      | cons y t => exact .inr ⟨rfl, .inr ⟨none, y, [42], t, rfl, rfl⟩⟩
    rw [if_neg h42]
    by_cases h47 : c = 47
    · subst h47
      rw [if_pos rfl, List.cons_append, t47, List.all_cons, show seenB 47 = true from by decide, Bool.true_and]
      rcases run_line seenB t d r hds with ⟨k1, k2⟩ | ⟨k1, a, y, x1, x2, k2, k3, k4⟩
      · exact .inl ⟨k1, by rw [k2, bindH_ok]; rfl⟩
      · exact .inr ⟨k1, .inr ⟨none, y, 47 :: x1, x2, by rw [k2]; rfl, by rw [k4, bindH_ok]⟩⟩
    rw [if_neg h47, List.cons_append]
    have hd7 : d ∉ ([116, 116, 112, 58, 47, 47] : List UInt8) := by rcases hd with rfl | rfl <;> decide
    by_cases hp : prefR (c :: t) http7 = true
    · rw [if_pos hp]
      refine .inr ⟨rfl, .inl ?_⟩
      have hp' := (prefR_iff _ _).1 hp
      rw [http7_eq, List.cons_prefix_cons] at hp'
      obtain ⟨rfl, hp2⟩ := hp'
      rw [t104 []]
      rcases text_line _ t d r hd7 with ⟨x', rfl, h⟩ | ⟨_, h⟩
      · have hx : x' = [] := by
          have := hp2.length_le
          simp only [List.length_append, List.length_cons, List.length_nil] at this
          exact List.length_eq_zero_iff.1 (by omega)
        subst hx
        have hdh : hostB d = false := by rcases hd with rfl | rfl <;> decide
        rw [h, bindH_ok, List.nil_append]
        have ha := auth_name (u := []) (r := r) rfl hdh
        rw [show foldA [] = none from by simp [foldA], List.nil_append] at ha
        rw [ha, bindH_err]
      · rw [h, bindH_err]
    rw [if_neg hp]
    cases hq : prefR http7 (c :: t) with
    | false =>
      rw [if_pos rfl]
      refine .inr ⟨rfl, .inl ?_⟩
      by_cases h104 : c = 104
      · subst h104
        rw [t104 []]
        rcases text_line _ t d r hd7 with ⟨x', rfl, h⟩ | ⟨_, h⟩
        · exfalso
          rw [show prefR http7 (104 :: ([116, 116, 112, 58, 47, 47] ++ x')) = true from (prefR_iff _ _).2 ⟨x', rfl⟩] at hq
          cases hq
        · rw [h, bindH_err]
      · exact tno _ h42 h47 h104
    | true =>
      rw [if_neg (by simp)]
      obtain ⟨R, rfl, rfl, hR⟩ := rest_http hq
      rw [hR, List.append_assoc, t_after]
      rcases after_line R d r hd with h | ⟨h1, h2⟩
      · exact .inl h
      · exact .inr ⟨h1, h2.app (104 :: [116, 116, 112, 58, 47, 47])⟩
theorem target_end (x : List UInt8) :
    ((targetR x).1 = true ∧ (targetH x = .error 0 ∨ ∃ o, targetH x = .ok (o, []))) ∨ ((targetR x).1 = false ∧ InS x [] (targetH x)) := by
  cases x with
  | nil => exact .inl ⟨rfl, .inl rfl⟩
  | cons c t =>
    unfold targetR
    dsimp only
    by_cases h42 : c = 42
    · subst h42
      rw [if_pos rfl, t42]
      cases t with
      | nil => exact .inl ⟨rfl, .inr ⟨none, rfl⟩⟩
      | cons y t => exact .inr ⟨rfl, .inr ⟨none, y, [42], t, rfl, by simp⟩⟩
    rw [if_neg h42]
    by_cases h47 : c = 47
    · subst h47
      rw [if_pos rfl, t47, List.all_cons, show seenB 47 = true from by decide, Bool.true_and]
      rcases run_end seenB t with ⟨k1, k2⟩ | ⟨k1, a, y, x1, x2, k2, k3, k4⟩
      · exact .inl ⟨k1, .inl (by rw [k2, bindH_err])⟩
      · exact .inr ⟨k1, .inr ⟨none, y, 47 :: x1, x2, by rw [k2]; rfl, by rw [k4, bindH_ok]; simp⟩⟩
    rw [if_neg h47]
    by_cases hp : prefR (c :: t) http7 = true
    · rw [if_pos hp]
      refine .inl ⟨rfl, .inl ?_⟩
      have hp' := (prefR_iff _ _).1 hp
      rw [http7_eq, List.cons_prefix_cons] at hp'
      obtain ⟨rfl, hp2⟩ := hp'
      rw [t104 []]
      rcases text_end [116, 116, 112, 58, 47, 47] t with ⟨x', rfl, h⟩ | ⟨_, _, h⟩ | ⟨_, h0, h⟩
      · have hx : x' = [] := by
          have := hp2.length_le
          simp only [List.length_append, List.length_cons, List.length_nil] at this
          exact List.length_eq_zero_iff.1 (by omega)
        subst hx
        rw [h, bindH_ok]
        rfl
      · rw [h, bindH_err]
      · exact absurd hp2 h0
    rw [if_neg hp]
    cases hq : prefR http7 (c :: t) with
    | false =>
      rw [if_pos rfl]
      refine .inr ⟨rfl, .inl ?_⟩
      by_cases h104 : c = 104
      · subst h104
        rw [t104 []]
        rcases text_end [116, 116, 112, 58, 47, 47] t with ⟨x', rfl, h⟩ | ⟨_, h0, h⟩ | ⟨_, h0, h⟩
        · exfalso
          rw [show prefR http7 (104 :: ([116, 116, 112, 58, 47, 47] ++ x')) = true from (prefR_iff _ _).2 ⟨x', rfl⟩] at hq
          cases hq
        · exfalso
          refine hp ((prefR_iff _ _).2 ?_)
          rw [http7_eq, List.cons_prefix_cons]
          exact ⟨rfl, h0⟩
        · rw [h, bindH_err]
      · exact tno _ h42 h47 h104
    | true =>
      rw [if_neg (by simp)]
      obtain ⟨R, rfl, rfl, hR⟩ := rest_http hq
      rw [hR, t_after]
      rcases after_end R with ⟨h1, h2⟩ | ⟨h1, h2⟩
      · exact .inl ⟨h1, .inl h2⟩
      · exact .inr ⟨h1, h2.app (104 :: [116, 116, 112, 58, 47, 47])⟩

/-! a method -/
theorem cap_not32 {c : UInt8} (h : capB c = true) : ¬ c = 32 := by rintro rfl; exact absurd h (by decide)
theorem method_end : ∀ (u : List UInt8) (many : Nat), many ≤ 16 → u.all capB = true → methodH many u = if many + u.length ≤ 16 then .error 0 else .error 3
  | [], many, hm, _ => by simp [methodH, hm]
  | c :: u, many, hm, h => by
    rw [List.all_cons, Bool.and_eq_true] at h
    simp only [methodH, cap_not32 h.1, if_false, h.1, if_true, List.length_cons]
    by_cases h16 : 16 ≤ many
    · rw [if_pos h16, if_neg (by omega)]
    · rw [if_neg h16, method_end u (many + 1) (by omega) h.2]
      simp only [show many + 1 + u.length = many + (u.length + 1) by omega]
theorem method_stop : ∀ (u : List UInt8) (many : Nat) (d : UInt8) (r : List UInt8), many ≤ 16 → u.all capB = true → capB d = false → methodH many (u ++ d :: r) = if d = 32 ∧ many + u.length ≤ 16 then .ok ((), d :: r) else .error 3
  | [], many, d, r, hm, _, hd => by
    simp only [List.nil_append, methodH, hd, List.length_nil, Nat.add_zero, hm, and_true]
    by_cases h : d = 32 <;> simp [h]
  | c :: u, many, d, r, hm, h, hd => by
    rw [List.all_cons, Bool.and_eq_true] at h
    simp only [List.cons_append, methodH, cap_not32 h.1, if_false, h.1, if_true, List.length_cons]
    by_cases h16 : 16 ≤ many
    · rw [if_pos h16, if_neg (by rintro ⟨_, h⟩; omega)]
    · rw [if_neg h16, method_stop u (many + 1) d r (by omega) h.2 hd]
      simp only [show many + 1 + u.length = many + (u.length + 1) by omega]

/-! a version -/
def versH (l : List UInt8) : RH Unit := bindH (textH [72, 84, 84, 80, 47, 49, 46] l) fun _ r => bindH (nextH zerooneB r) fun _ r => textH [13, 10] r
theorem zero_one (c : UInt8) : zerooneB c = (decide (c = 48) || decide (c = 49)) := by
  unfold zerooneB
  congr 1 <;> rw [decide_eq_decide] <;> exact ⟨fun h => UInt8.toNat_inj.1 h, fun h => by rw [h]; rfl⟩
theorem vers_end (V : List UInt8) (h13 : 13 ∉ V) : versH V = if (prefR V h10 || prefR V h11) = true then .error 0 else .error 3 := by
  have hi : ((prefR V h10 || prefR V h11) = true) ↔ (V <+: h10 ∨ V <+: h11) := by rw [Bool.or_eq_true, prefR_iff, prefR_iff]
  simp only [hi]
  unfold versH
  rcases text_end [72, 84, 84, 80, 47, 49, 46] V with ⟨x', rfl, h⟩ | ⟨h0, h1, h⟩ | ⟨h0, h1, h⟩
  · rw [h, bindH_ok]
    have e1 : ∀ b : UInt8, ([72, 84, 84, 80, 47, 49, 46] ++ x' <+: [72, 84, 84, 80, 47, 49, 46, b]) ↔ x' <+: [b] := fun b => by
      rw [show ([72, 84, 84, 80, 47, 49, 46, b] : List UInt8) = [72, 84, 84, 80, 47, 49, 46] ++ [b] from rfl, List.prefix_append_right_inj]
    simp only [show h10 = [72, 84, 84, 80, 47, 49, 46, 48] from rfl, show h11 = [72, 84, 84, 80, 47, 49, 46, 49] from rfl, e1]
    cases x' with
    | nil => simp [nextH, bindH]
    | cons c x' =>
      simp only [nextH, zero_one, List.cons_prefix_cons]
      by_cases hc : c = 48 ∨ c = 49
      · rw [if_pos (by simpa using hc), bindH_ok]
        cases x' with
        | nil => simp [textH, nextH, bindH, hc]
        | cons d x' =>
          have hd : ¬ d = 13 := by rintro rfl; simp at h13
          simp [textH, nextH, bindH, hd]
      · rw [if_neg (by simpa using hc), bindH_err, if_neg]
        rintro (⟨h, _⟩ | ⟨h, _⟩)
        · exact hc (.inl h)
        · exact hc (.inr h)
  · rw [h, bindH_err, if_pos]
    exact .inl (h1.trans ⟨[48], rfl⟩)
  · rw [h, bindH_err, if_neg]
    have e2 : ∀ b : UInt8, ¬ V <+: [72, 84, 84, 80, 47, 49, 46, b] := fun b hv => by
      rcases List.prefix_concat_iff.1 (show V <+: [72, 84, 84, 80, 47, 49, 46] ++ [b] from hv) with hv | hv
      · exact h0 ⟨[b], hv.symm⟩
      · exact h1 hv
    rintro (hv | hv)
    · exact e2 48 hv
    · exact e2 49 hv
theorem vers_line (V r : List UInt8) (h13 : 13 ∉ V) : versH (V ++ 13 :: r) = if (decide (V = h10) || decide (V = h11)) = true then textH [13, 10] (13 :: r) else .error 3 := by
  have hi : ((decide (V = h10) || decide (V = h11)) = true) ↔ (V = h10 ∨ V = h11) := by simp
  simp only [hi]
  unfold versH
  rcases text_line [72, 84, 84, 80, 47, 49, 46] V 13 r (by decide) with ⟨x', rfl, h⟩ | ⟨h0, h⟩
  · rw [h, bindH_ok]
    have e1 : ∀ b : UInt8, ([72, 84, 84, 80, 47, 49, 46] ++ x' = [72, 84, 84, 80, 47, 49, 46, b]) ↔ x' = [b] := fun b => by
      rw [show ([72, 84, 84, 80, 47, 49, 46, b] : List UInt8) = [72, 84, 84, 80, 47, 49, 46] ++ [b] from rfl, List.append_cancel_left_eq]
    simp only [show h10 = [72, 84, 84, 80, 47, 49, 46, 48] from rfl, show h11 = [72, 84, 84, 80, 47, 49, 46, 49] from rfl, e1]
    cases x' with
    | nil =>
      rw [if_neg (by simp)]
      simp [nextH, zerooneB, bindH]
    | cons c x' =>
      simp only [List.cons_append, nextH, zero_one]
      by_cases hc : c = 48 ∨ c = 49
      · rw [if_pos (by simpa using hc), bindH_ok]
        cases x' with
        | nil => rw [if_pos (by simpa using hc)]; rfl
        | cons d x' =>
          have hd : ¬ d = 13 := by rintro rfl; simp at h13
          rw [if_neg (by simp)]
          simp [textH, nextH, bindH, hd]
      · rw [if_neg (by simpa using hc), bindH_err, if_neg]
        rintro (h | h)
        · injection h with h _; exact hc (.inl h)
        · injection h with h _; exact hc (.inr h)
  · rw [h, bindH_err, if_neg]
    rintro (rfl | rfl)
    · exact h0 ⟨[48], rfl⟩
    · exact h0 ⟨[49], rfl⟩

/-! a first line -/
theorem pre_split (s : List UInt8) (c : UInt8) : (c ∉ s ∧ preL s c = s ∧ ¬ (preL s c).length < s.length) ∨ ∃ v, s = preL s c ++ c :: v ∧ c ∉ preL s c ∧ (preL s c).length < s.length ∧ s.drop ((preL s c).length + 1) = v := by
  rcases split_at (fun x => !(x == c)) s with h | ⟨u, y, v, rfl, h1, h2⟩
  · have hm : c ∉ s := fun hc => by
      have := List.all_eq_true.1 h c hc
      simp at this
    have hp : preL s c = s := take_all fun x hx hxc => hm (hxc ▸ hx)
    exact .inl ⟨hm, hp, by rw [hp]; omega⟩
  · have hy : y = c := by simpa using h2
    subst hy
    have hm : y ∉ u := fun hc => by
      have := List.all_eq_true.1 h1 y hc
      simp at this
    have hp : preL (u ++ y :: v) y = u := take_at_c fun x hx hxc => hm (hxc ▸ hx)
    exact .inr ⟨v, by rw [hp], by rw [hp]; exact hm, by rw [hp]; simp, by rw [hp]; simp⟩
theorem text_sp (l : List UInt8) : textH [32, 72, 84, 84, 80, 47, 49, 46] (32 :: l) = textH [72, 84, 84, 80, 47, 49, 46] l := rfl
theorem text_no {s l : List UInt8} {c y : UInt8} (h : ¬ y = c) : textH (c :: s) (y :: l) = .error 3 := by
  have hc' : (y == c) = false := by simpa using h
  simp [textH, nextH, hc', bindH]
/-- the reading behind a method and a blank -/
def tailH (l : List UInt8) : RH (Option (List UInt8)) := bindH (targetH l) fun o r => bindH (textH [32, 72, 84, 84, 80, 47, 49, 46] r) fun _ r => bindH (nextH zerooneB r) fun _ r => bindH (textH [13, 10] r) fun _ r => .ok (o, r)
theorem bindH_assoc {α β γ : Type} (x : RH α) (f : α → List UInt8 → RH β) (g : β → List UInt8 → RH γ) : bindH (bindH x f) g = bindH x fun a r => bindH (f a r) g := by
  cases x with
  | error k => rfl
  | ok y => rfl
theorem tail_sp (l : List UInt8) (o : Option (List UInt8)) : (bindH (textH [32, 72, 84, 84, 80, 47, 49, 46] (32 :: l)) fun _ r => bindH (nextH zerooneB r) fun _ r => bindH (textH [13, 10] r) fun _ r => (.ok (o, r) : RH (Option (List UInt8)))) = bindH (versH l) fun _ r => .ok (o, r) := by
  rw [text_sp]
  unfold versH
  rw [bindH_assoc]
  congr 1
  funext _ r
  rw [bindH_assoc]
theorem tail_end (R : List UInt8) (h13 : 13 ∉ R) : tailH R = if (tailR R false).1 = true then .error 0 else .error 3 := by
  unfold tailR tailH
  rcases pre_split R 32 with ⟨h1, h2, h3⟩ | ⟨V, h1, h2, h3, h4⟩
  · rw [if_neg h3]
    rcases target_end R with ⟨g1, g2 | ⟨o, g2⟩⟩ | ⟨g1, g2 | ⟨a, y, x1, x2, g3, g2⟩⟩
    · rw [g1, g2]; rfl
    · rw [g1, g2]; rfl
    · rw [g1, g2]; rfl
    · rw [g1, g2, bindH_ok, text_no (fun h => h1 (by rw [g3, ← h]; simp))]; rfl
  · rw [if_pos h3, h4]
    obtain ⟨N, hN⟩ : ∃ N, preL R 32 = N := ⟨_, rfl⟩
    rw [hN] at h1 h2 ⊢
    have hV : 13 ∉ V := fun h => h13 (by rw [h1]; simp [h])
    rw [h1]
    rcases target_line N 32 V (.inr rfl) with ⟨g1, g2⟩ | ⟨g1, g2 | ⟨a, y, x1, x2, g3, g2⟩⟩
    · rw [g1, g2, bindH_ok, tail_sp, vers_end V hV]
      simp only [Bool.true_and, Bool.false_eq_true, if_false]
      cases (prefR V h10 || prefR V h11) <;> rfl
    · rw [g1, g2]; rfl
    · rw [g1, g2, bindH_ok, text_no (fun h => h2 (by rw [g3, ← h]; simp))]; rfl
theorem tail_line (R r : List UInt8) (h13 : 13 ∉ R) : tailH (R ++ 13 :: r) = if (tailR R true).1 = true then bindH (textH [13, 10] (13 :: r)) fun _ u => .ok (orN (tailR R true).2, u) else .error 3 := by
  unfold tailR tailH
  rcases pre_split R 32 with ⟨h1, h2, h3⟩ | ⟨V, h1, h2, h3, h4⟩
  · rw [if_neg h3]
    simp only [Bool.not_true, Bool.and_false, Bool.false_eq_true, if_false]
    rcases target_line R 13 r (.inl rfl) with ⟨g1, g2⟩ | ⟨g1, g2 | ⟨a, y, x1, x2, g3, g2⟩⟩
    · rw [g2, bindH_ok, text_no (by decide)]; rfl
    · rw [g2]; rfl
    · rw [g2, bindH_ok, text_no (fun h => h1 (by rw [g3, ← h]; simp))]; rfl
  · rw [if_pos h3, h4]
    obtain ⟨N, hN⟩ : ∃ N, preL R 32 = N := ⟨_, rfl⟩
    rw [hN] at h1 h2 ⊢
    have hV : 13 ∉ V := fun h => h13 (by rw [h1]; simp [h])
    rw [h1, List.append_assoc, List.cons_append]
    rcases target_line N 32 (V ++ 13 :: r) (.inr rfl) with ⟨g1, g2⟩ | ⟨g1, g2 | ⟨a, y, x1, x2, g3, g2⟩⟩
    · rw [g1, g2, bindH_ok, tail_sp, vers_line V r hV]
      simp only [Bool.true_and, if_true]
      cases (decide (V = h10) || decide (V = h11)) <;> rfl
    · rw [g1, g2]; rfl
    · rw [g1, g2, bindH_ok, text_no (fun h => h2 (by rw [g3, ← h]; simp))]; rfl
theorem firstH_tail (l : List UInt8) : firstH l = bindH (nextH capB l) fun _ r => bindH (methodH 1 r) fun _ r => bindH (textH [32] r) fun _ r => tailH r := rfl
/-- a method and what stands behind it -/
theorem method_any (M : List UInt8) (d : UInt8) (l : List UInt8) (hd : capB d = false) :
    firstH (M ++ d :: l) = if M.all capB = true ∧ M ≠ [] ∧ M.length ≤ 16 ∧ d = 32 then tailH l else if M.all capB = true then .error 3 else firstH (M ++ d :: l) := by
  by_cases hM : M.all capB = true
  · cases M with
    | nil =>
      rw [if_neg (by simp), if_pos hM, firstH_tail]
      simp [nextH, hd, bindH]
    | cons c u =>
      have hM2 := hM
      rw [List.all_cons, Bool.and_eq_true] at hM2
      rw [firstH_tail, List.cons_append, show nextH capB (c :: (u ++ d :: l)) = .ok (c, u ++ d :: l) from by simp [nextH, hM2.1], bindH_ok, method_stop u 1 d l (by omega) hM2.2 hd]
      by_cases h : d = 32 ∧ 1 + u.length ≤ 16
      · obtain ⟨rfl, h16⟩ := h
        rw [if_pos ⟨rfl, h16⟩, if_pos ⟨hM, by simp, by simp; omega, rfl⟩, bindH_ok]
        rfl
      · rw [if_neg h, bindH_err, if_neg, if_pos hM]
        rintro ⟨_, _, h1, h2⟩
        exact h ⟨h2, by simp at h1; omega⟩
  · rw [if_neg (fun h => hM h.1), if_neg hM]
theorem first_bad {s t : List UInt8} (h : (preL s 32).all capB = false) : firstH (s ++ t) = .error 3 := by
  rcases split_at capB (preL s 32) with h1 | ⟨u, y, v, h1, h2, h3⟩
  · rw [h1] at h; cases h
  · have hs : ∃ q, s = u ++ y :: q := by
      have := List.takeWhile_prefix (fun x => !(x == 32)) (l := s)
      obtain ⟨q, hq⟩ := this
      refine ⟨v ++ q, ?_⟩
      rw [← hq, show s.takeWhile (fun x => !(x == 32)) = u ++ y :: v from h1]
      simp
    obtain ⟨q, rfl⟩ := hs
    have hy : ¬ y = 32 := by
      rintro rfl
      have := List.all_takeWhile (p := fun x => !(x == 32)) (l := u ++ 32 :: q)
      rw [show (u ++ 32 :: q).takeWhile (fun x => !(x == 32)) = u ++ 32 :: v from h1] at this
      simp at this
    rw [List.append_assoc, List.cons_append, method_any u y _ h3, if_neg (fun g => hy g.2.2.2), if_pos h2]
theorem first_end (s : List UInt8) (h13 : 13 ∉ s) : firstH s = if (firstR s false).1 = true then .error 0 else .error 3 := by
  unfold firstR
  by_cases hc : (preL s 32).all capB = false
  · rw [if_pos hc]
    have := first_bad (t := []) hc
    rw [List.append_nil] at this
    rw [this]; rfl
  · rw [if_neg hc]
    have hc2 : (preL s 32).all capB = true := by simpa using hc
    rcases pre_split s 32 with ⟨h1, h2, h3⟩ | ⟨V, h1, h2, h3, h4⟩
    · rw [if_neg h3]
      rw [h2] at hc2
      cases s with
      | nil => rfl
      | cons c u =>
        rw [List.all_cons, Bool.and_eq_true] at hc2
        rw [firstH_tail, show nextH capB (c :: u) = .ok (c, u) from by simp [nextH, hc2.1], bindH_ok, method_end u 1 (by omega) hc2.2]
        by_cases h16 : 1 + u.length ≤ 16
        · rw [if_pos h16, if_neg (show ¬ (16 < (c :: u).length ∨ false = true) from by simp; omega)]; rfl
        · rw [if_neg h16, if_pos (show 16 < (c :: u).length ∨ false = true from by simp; omega)]; rfl
    · rw [if_pos h3, h4]
      obtain ⟨M, hM⟩ : ∃ M, preL s 32 = M := ⟨_, rfl⟩
      rw [hM] at h1 hc2 ⊢
      have hV : 13 ∉ V := fun h => h13 (by rw [h1]; simp [h])
      rw [h1, method_any M 32 V (by decide)]
      by_cases h : 16 < M.length ∨ M.length = 0
      · rw [if_pos h, if_neg, if_pos hc2]
        · rfl
        · rintro ⟨_, g1, g2, _⟩
          rcases h with h | h
          · omega
          · exact g1 (List.length_eq_zero_iff.1 h)
      · rw [if_neg h, if_pos ⟨hc2, fun g => h (.inr (by rw [g]; rfl)), by omega, rfl⟩, tail_end V hV]
theorem first_line (s r : List UInt8) (h13 : 13 ∉ s) : firstH (s ++ 13 :: r) = if (firstR s true).1 = true then bindH (textH [13, 10] (13 :: r)) fun _ u => .ok (orN (firstR s true).2, u) else .error 3 := by
  unfold firstR
  by_cases hc : (preL s 32).all capB = false
  · rw [if_pos hc, first_bad hc]; rfl
  · rw [if_neg hc]
    have hc2 : (preL s 32).all capB = true := by simpa using hc
    rcases pre_split s 32 with ⟨h1, h2, h3⟩ | ⟨V, h1, h2, h3, h4⟩
    · rw [if_neg h3, if_pos (Or.inr rfl)]
      rw [h2] at hc2
      rw [method_any s 13 r (by decide), if_neg (by rintro ⟨_, _, _, h⟩; exact absurd h (by decide)), if_pos hc2]
      rfl
    · rw [if_pos h3, h4]
      obtain ⟨M, hM⟩ : ∃ M, preL s 32 = M := ⟨_, rfl⟩
      rw [hM] at h1 hc2 ⊢
      have hV : 13 ∉ V := fun h => h13 (by rw [h1]; simp [h])
      rw [h1, List.append_assoc, List.cons_append, method_any M 32 (V ++ 13 :: r) (by decide)]
      by_cases h : 16 < M.length ∨ M.length = 0
      · rw [if_pos h, if_neg, if_pos hc2]
        · rfl
        · rintro ⟨_, g1, g2, _⟩
          rcases h with h | h
          · omega
          · exact g1 (List.length_eq_zero_iff.1 h)
      · rw [if_neg h, if_pos ⟨hc2, fun g => h (.inr (by rw [g]; rfl)), by omega, rfl⟩, tail_line V r hV]
end Go.Proofs.YtpoheemjdieogaaGreatDoor

namespace Go.Proofs.YtpoheemjdieogaaGreatDoor
open Go.Lib
set_option linter.unusedVariables false
set_option linter.unusedSimpArgs false

theorem equalFold_low : ∀ (a b : List UInt8), (∀ y ∈ b, 97 ≤ y.toNat ∧ y.toNat ≤ 122) → (equalFold a b = true ↔ a.map lowerB = b)
  | [], [], _ => by simp [equalFold]
  | [], y :: b, _ => by simp [equalFold]
  | x :: a, [], _ => by simp [equalFold]
  | x :: a, y :: b, h => by
    have ih := equalFold_low a b (fun z hz => h z (by simp [hz]))
    have hy := h y (by simp)
    have hxy : foldEq x y = true ↔ lowerB x = y := by
      unfold foldEq
      rw [decide_eq_true_eq]
      cases hc : capB x with
      | true =>
        have hl := lower_cap hc
        have hx1 : 65 ≤ x.toNat ∧ x.toNat ≤ 90 := by unfold capB at hc; simpa using hc
        constructor
        · intro h2
          apply UInt8.toNat_inj.1
          omega
        · intro h2
          rw [h2] at hl
          omega
      | false =>
        rw [lower_not hc]
        have hx1 : ¬ (65 ≤ x.toNat ∧ x.toNat ≤ 90) := by unfold capB at hc; simp at hc; omega
        constructor
        · intro h2
          apply UInt8.toNat_inj.1
          omega
        · intro h2
          rw [h2]; left; rfl
    simp [equalFold, hxy, ih]
theorem host_low (a : List UInt8) : equalFold a hostL = true ↔ a.map lowerB = hostL := equalFold_low a hostL (fun y hy => by
  have h2 : y ∈ ([104, 111, 115, 116] : List UInt8) := hy
  simp only [List.mem_cons, List.not_mem_nil, or_false] at h2
  rcases h2 with h | h | h | h <;> rw [h] <;> decide)

/-! a value -/
theorem blank_shown {c : UInt8} (h : blankB c = true) : shownB c = true := by unfold shownB; rw [h]; rfl
theorem blank_host {c : UInt8} (h : blankB c = true) : hostB c = false ∧ ¬ c = 58 ∧ ¬ c = 13 := by
  unfold blankB at h
  simp only [Bool.or_eq_true, decide_eq_true_eq] at h
  rcases h with h | h
  · have : c = 32 := UInt8.toNat_inj.1 h
    subst this; decide
  · have : c = 9 := UInt8.toNat_inj.1 h
    subst this; decide
/-- blanks ahead, a text without blanks at its ends, blanks behind -/
theorem value_split (v : List UInt8) : ∃ a e b, v = a ++ e ++ b ∧ a.all blankB = true ∧ b.all blankB = true ∧ v.dropWhile blankB = e ++ b ∧ endT (e ++ b) = e ∧ (e = [] → b = []) ∧ (∀ y ∈ e.head?, blankB y = false) ∧ (∀ y ∈ e.getLast?, blankB y = false) := by
  obtain ⟨D, hD⟩ : ∃ D, v.dropWhile blankB = D := ⟨_, rfl⟩
  have h1 : v.takeWhile blankB ++ D = v := by rw [← hD]; exact List.takeWhile_append_dropWhile
  have h2 : D.reverse.takeWhile blankB ++ D.reverse.dropWhile blankB = D.reverse := List.takeWhile_append_dropWhile
  have h3 : endT D ++ (D.reverse.takeWhile blankB).reverse = D := by
    have := congrArg List.reverse h2
    rw [List.reverse_append, List.reverse_reverse] at this
    exact this
  have hb : ((D.reverse.takeWhile blankB).reverse).all blankB = true := by
    rw [List.all_reverse]; exact List.all_takeWhile
  have hD0 : ∀ y ∈ D.head?, blankB y = false := fun y hy => by
    have := List.head?_dropWhile_not blankB v
    rw [hD] at this
    cases hd : D.head? with
    | none => rw [hd] at hy; simp at hy
    | some z =>
      rw [hd] at hy this
      simp at hy
      subst hy
      simpa using this
  have he : endT D = [] → D = [] := fun he => by
    rw [he, List.nil_append] at h3
    cases hDD : D with
    | nil => rfl
    | cons z D' =>
      have h5 := List.all_eq_true.1 hb z (by rw [h3, hDD]; simp)
      rw [hD0 z (by rw [hDD]; rfl)] at h5
      cases h5
  refine ⟨v.takeWhile blankB, endT D, (D.reverse.takeWhile blankB).reverse, ?_, List.all_takeWhile, hb, hD.trans h3.symm, by rw [h3], ?_, ?_, ?_⟩
  · rw [List.append_assoc, h3, h1]
  · intro h
    have hd := he h
    rw [hd]; rfl
  · intro y hy
    refine hD0 y ?_
    rw [← h3]
    cases hE : endT D with
    | nil => rw [hE] at hy; simp at hy
    | cons z E => rw [hE] at hy; exact hy
  · intro y hy
    have h6 := List.head?_dropWhile_not blankB D.reverse
    unfold endT at hy
    rw [List.getLast?_reverse] at hy
    cases hd : (D.reverse.dropWhile blankB).head? with
    | none => rw [hd] at hy; simp at hy
    | some z =>
      rw [hd] at hy h6
      simp at hy
      subst hy
      simpa using h6
def afterB (a : List UInt8) : List UInt8 → RH (List UInt8)
  | [] => .error 0
  | y :: t => .ok (a, y :: t)
theorem run_blanks (a l : List UInt8) (ha : a.all blankB = true) (hl : ∀ y ∈ l.head?, blankB y = false) : runH blankB (a ++ l) = afterB a l := by
  cases l with
  | nil => rw [List.append_nil]; exact run_all _ a ha
  | cons y t => exact run_stop _ a y t ha (hl y rfl)
/-- behind a reading that ended within e -/
theorem inside_ends {e x1 x2 : List UInt8} {y : UInt8} (t : List UInt8) (he : e = x1 ++ y :: x2) (hl : ∀ y ∈ e.getLast?, blankB y = false) (h13 : 13 ∉ e) : ∃ a z q, runH blankB (y :: (x2 ++ t)) = .ok (a, z :: q) ∧ ¬ z = 13 := by
  rcases split_at blankB (y :: x2) with h | ⟨u, z, v, h1, h2, h3⟩
  · exfalso
    cases hl2 : (y :: x2).getLast? with
    | none => simp at hl2
    | some z =>
      have hg : e.getLast? = some z := by rw [he, List.getLast?_append, hl2]; rfl
      have h1 := hl z (by rw [hg]; rfl)
      have h2 := List.all_eq_true.1 h z (List.mem_of_getLast? hl2)
      rw [h1] at h2; cases h2
  · refine ⟨u, z, v ++ t, ?_, fun hz => h13 ?_⟩
    · rw [← List.cons_append, h1, List.append_assoc, List.cons_append, run_stop _ u z _ h2 h3]
    · rw [he, h1, hz]; simp
theorem value_at {v e b : List UInt8} (h1 : v.dropWhile blankB = e ++ b) (h2 : endT (e ++ b) = e) (whole : Bool) : (valueR v whole).1 = (if whole = true ∨ e.length < (e ++ b).length then (authV e).2 else beginAR e) ∧ (valueR v whole).2.2 = (authV e).1 := by
  unfold valueR
  rw [h1, h2]
  exact ⟨rfl, rfl⟩
/-- the reading of a host's value -/
def hostH (l : List UInt8) : RH (Int × List UInt8) := bindH (runH blankB l) fun _ r => bindH (authH r) fun nm r => bindH (runH blankB r) fun _ r => bindH (textH [13, 10] r) fun _ r => .ok ((1, nm), r)
theorem host_end (v : List UInt8) (h13 : 13 ∉ v) : hostH v = if (valueR v false).1 = true then .error 0 else .error 3 := by
  obtain ⟨a, e, b, hv, ha, hb, h1, h2, h3, h4, h5⟩ := value_split v
  have hval := (value_at h1 h2 false).1
  unfold hostH
  have he13 : 13 ∉ e := fun h => h13 (by rw [hv]; simp [h])
  have hh : ∀ y ∈ (e ++ b).head?, blankB y = false := fun y hy => by
    cases e with
    | nil => rw [h3 rfl] at hy; simp at hy
    | cons z e => exact h4 y hy
  have hr := run_blanks a (e ++ b) ha hh
  rw [← List.append_assoc, ← hv] at hr
  rw [hr]
  cases e with
  | nil =>
    rw [h3 rfl]
    have hv1 : (valueR v false).1 = true := by
      rw [hval, h3 rfl, if_neg (by simp)]
      rfl
    rw [List.append_nil, hv1]
    rfl
  | cons z e =>
    rw [List.cons_append, afterB, bindH_ok]
    cases b with
    | nil =>
      have hv1 : (valueR v false).1 = beginAR (z :: e) := by rw [hval, if_neg (by simp)]
      rw [List.append_nil, hv1]
      rcases auth_end (z :: e) with ⟨g1, g2⟩ | ⟨g1, g2 | ⟨nm, y, x1, x2, g2, g3⟩⟩
      · rw [g1, g2, bindH_err]; rfl
      · rw [g1, g2, bindH_err]; rfl
      · obtain ⟨a', z', q, k1, k2⟩ := inside_ends [] g2 h5 he13
        rw [g1, g3, bindH_ok, k1, bindH_ok, text_no k2]; rfl
    | cons d b =>
      rw [List.all_cons, Bool.and_eq_true] at hb
      obtain ⟨d1, d2, d3⟩ := blank_host hb.1
      have hv1 : (valueR v false).1 = (authV (z :: e)).2 := by rw [hval, if_pos (Or.inr (by simp))]
      rw [hv1]
      have ht := auth_line (z :: e) d b d1 d2
      rw [List.cons_append] at ht
      rcases ht with ⟨nm, g1, g2, g3⟩ | ⟨g1, g2 | ⟨nm, y, x1, x2, g2, g3⟩⟩
      · rw [g1, g3, bindH_ok, run_all _ (d :: b) (by rw [List.all_cons, hb.1, hb.2]; rfl), bindH_err]; rfl
      · rw [g1, g2, bindH_err]; rfl
      · obtain ⟨a', z', q, k1, k2⟩ := inside_ends (d :: b) g2 h5 he13
        rw [g1, g3, bindH_ok, k1, bindH_ok, text_no k2]; rfl
theorem host_line (v r : List UInt8) (h13 : 13 ∉ v) : hostH (v ++ 13 :: r) = if (valueR v true).1 = true then bindH (textH [13, 10] (13 :: r)) fun _ u => .ok ((1, (valueR v true).2.2), u) else .error 3 := by
  obtain ⟨a, e, b, hv, ha, hb, h1, h2, h3, h4, h5⟩ := value_split v
  have hv1 : (valueR v true).1 = (authV e).2 := by rw [(value_at h1 h2 true).1, if_pos (Or.inl rfl)]
  rw [hv1, (value_at h1 h2 true).2]
  unfold hostH
  have he13 : 13 ∉ e := fun h => h13 (by rw [hv]; simp [h])
  have hh : ∀ y ∈ (e ++ b ++ 13 :: r).head?, blankB y = false := fun y hy => by
    cases e with
    | nil =>
      rw [h3 rfl] at hy
      simp at hy
      subst hy
      decide
    | cons z e => exact h4 y hy
  have hr := run_blanks a (e ++ b ++ 13 :: r) ha hh
  rw [show v ++ 13 :: r = a ++ (e ++ b ++ 13 :: r) from by rw [hv]; simp, hr]
  have hrb : runH blankB (b ++ 13 :: r) = .ok (b, 13 :: r) := run_stop _ b 13 r hb (by decide)
  have key : ∀ d t, b ++ 13 :: r = d :: t → hostB d = false ∧ ¬ d = 58 := fun d t h => by
    cases b with
    | nil => injection h with h _; subst h; decide
    | cons d' b =>
      injection h with h _
      subst h
      rw [List.all_cons, Bool.and_eq_true] at hb
      exact ⟨(blank_host hb.1).1, (blank_host hb.1).2.1⟩
  obtain ⟨d, t, hdt⟩ : ∃ d t, b ++ 13 :: r = d :: t := by
    cases b with
    | nil => exact ⟨_, _, rfl⟩
    | cons d b => exact ⟨_, _, rfl⟩
  obtain ⟨d1, d2⟩ := key d t hdt
  rw [List.append_assoc, hdt]
  rw [hdt] at hrb
  have ht := auth_line e d t d1 d2
  have hstep : afterB a (e ++ d :: t) = .ok (a, e ++ d :: t) := by
    cases e <;> rfl
  rw [hstep, bindH_ok]
  rcases ht with ⟨nm, g1, g2, g3⟩ | ⟨g1, g2 | ⟨nm, y, x1, x2, g2, g3⟩⟩
  · rw [g1, g3, bindH_ok, hrb, bindH_ok, if_pos rfl]
  · rw [g1, g2, bindH_err]; rfl
  · obtain ⟨a', z', q, k1, k2⟩ := inside_ends (d :: t) g2 h5 he13
    rw [g1, g3, bindH_ok, k1, bindH_ok, text_no k2]; rfl
theorem value_not {v : List UInt8} (whole : Bool) (h : v.all shownB = false) : (valueR v whole).1 = false := by
  obtain ⟨a, e, b, hv, ha, hb, h1, h2, h3, h4, h5⟩ := value_split v
  have hs : ∀ l : List UInt8, l.all blankB = true → l.all shownB = true := fun l hl => List.all_eq_true.2 fun c hc => blank_shown (List.all_eq_true.1 hl c hc)
  have he : e.all shownB = false := by
    cases he : e.all shownB with
    | false => rfl
    | true =>
      rw [hv, List.all_append, List.all_append, hs a ha, hs b hb, he] at h
      cases h
  have hb0 : beginAR e = false := by
    cases hb0 : beginAR e with
    | false => rfl
    | true => rw [begins_shown hb0] at he; cases he
  have ha0 : (authV e).2 = false := by
    cases ha0 : (authV e).2 with
    | false => rfl
    | true => rw [auth_begins ha0] at hb0; cases hb0
  rw [(value_at h1 h2 whole).1, hb0, ha0]
  split <;> rfl

/-! a field's line -/
/-- the reading of a value that is no host's -/
def otherH (f : Nat) (l : List UInt8) : RH (Int × List UInt8) := bindH (runH blankB l) fun _ r => bindH (runH shownB r) fun _ r => bindH (textH [13, 10] r) fun _ r => fieldsH f r
theorem other_end (f : Nat) (v : List UInt8) (h13 : 13 ∉ v) : otherH f v = if v.all shownB = true then .error 0 else .error 3 := by
  unfold otherH
  rcases split_at blankB v with hb | ⟨u, y, t, rfl, h1, h2⟩
  · rw [run_all _ v hb, bindH_err, if_pos (List.all_eq_true.2 fun c hc => blank_shown (List.all_eq_true.1 hb c hc))]
  · have hu : u.all shownB = true := List.all_eq_true.2 fun c hc => blank_shown (List.all_eq_true.1 h1 c hc)
    rw [run_stop _ u y t h1 h2, bindH_ok, List.all_append, hu, Bool.true_and]
    rcases run_end shownB (y :: t) with ⟨k1, k2⟩ | ⟨k1, a, z, x1, x2, k2, k3, k4⟩
    · rw [k1, k2, bindH_err]; rfl
    · rw [k1, k4, bindH_ok, text_no (fun h => h13 (by rw [k2, h]; simp))]; rfl
theorem other_line (f : Nat) (v r : List UInt8) (h13 : 13 ∉ v) : otherH f (v ++ 13 :: r) = if v.all shownB = true then bindH (textH [13, 10] (13 :: r)) fun _ u => fieldsH f u else .error 3 := by
  unfold otherH
  rcases split_at blankB v with hb | ⟨u, y, t, rfl, h1, h2⟩
  · rw [run_stop _ v 13 r hb (by decide), bindH_ok, if_pos (List.all_eq_true.2 fun c hc => blank_shown (List.all_eq_true.1 hb c hc)),
      show runH shownB (13 :: r) = .ok ([], 13 :: r) from run_stop _ [] 13 r rfl (by decide), bindH_ok]
  · have hu : u.all shownB = true := List.all_eq_true.2 fun c hc => blank_shown (List.all_eq_true.1 h1 c hc)
    rw [List.append_assoc, List.cons_append, run_stop _ u y _ h1 h2, bindH_ok, List.all_append, hu, Bool.true_and]
    have hrl := run_line shownB (y :: t) 13 r (by decide)
    rw [List.cons_append] at hrl
    rcases hrl with ⟨k1, k2⟩ | ⟨k1, a, z, x1, x2, k2, k3, k4⟩
    · rw [k1, k2, bindH_ok]; rfl
    · rw [k1, k4, bindH_ok, text_no (fun h => h13 (by rw [k2, h]; simp))]; rfl
theorem text_one (c : UInt8) (l : List UInt8) : textH [c] (c :: l) = .ok ((), l) := by simp [textH, nextH, bindH]
theorem fieldsH_peek {f : Nat} {c : UInt8} {l : List UInt8} (h : ¬ c = 13) : fieldsH (f + 1) (c :: l) = bindH (nextH wordB (c :: l)) fun a r => bindH (runH wordB r) fun ws r => bindH (textH [58] r) fun _ r => bindH (runH blankB r) fun _ r => if equalFold (a :: ws) hostL then bindH (authH r) fun nm r => bindH (runH blankB r) fun _ r => bindH (textH [13, 10] r) fun _ r => .ok ((1, nm), r) else bindH (runH shownB r) fun _ r => bindH (textH [13, 10] r) fun _ r => fieldsH f r := by
  rw [fieldsH, peekH, bindH_ok, if_neg h]
theorem word_not {d : UInt8} (h : d = 13 ∨ d = 58) : wordB d = false := by rcases h with rfl | rfl <;> decide
/-- a word and the byte behind it -/
theorem word_any (f : Nat) (W : List UInt8) (d : UInt8) (l : List UInt8) (hW : W.all wordB = true) (hd : wordB d = false) (h13 : W = [] → ¬ d = 13) :
    fieldsH (f + 1) (W ++ d :: l) = if W ≠ [] ∧ d = 58 then (if W.map lowerB = hostL then hostH l else otherH f l) else .error 3 := by
  cases W with
  | nil =>
    rw [List.nil_append, fieldsH_peek (h13 rfl), if_neg (by simp)]
    simp [nextH, hd, bindH]
  | cons c W =>
    rw [List.all_cons, Bool.and_eq_true] at hW
    have hc13 : ¬ c = 13 := by rintro rfl; exact absurd hW.1 (by decide)
    rw [List.cons_append, fieldsH_peek hc13, show nextH wordB (c :: (W ++ d :: l)) = .ok (c, W ++ d :: l) from by simp [nextH, hW.1], bindH_ok, run_stop _ W d l hW.2 hd, bindH_ok]
    by_cases h58 : d = 58
    · subst h58
      rw [if_pos ⟨by simp, rfl⟩, text_one, bindH_ok]
      by_cases hh : (c :: W).map lowerB = hostL
      · rw [if_pos hh]
        simp only [(host_low _).2 hh, if_true]
        rfl
      · rw [if_neg hh]
        have : equalFold (c :: W) hostL = false := by
          cases he : equalFold (c :: W) hostL with
          | false => rfl
          | true => exact absurd ((host_low _).1 he) hh
        simp only [this, Bool.false_eq_true, if_false]
        rfl
    · rw [if_neg (fun h => h58 h.2), text_no h58, bindH_err]
theorem field_bad {f : Nat} {s t : List UInt8} (h13 : 13 ∉ s) (h : (preL s 58).all wordB = false) : fieldsH (f + 1) (s ++ t) = .error 3 := by
  rcases split_at wordB (preL s 58) with h1 | ⟨u, y, v, h1, h2, h3⟩
  · rw [h1] at h; cases h
  · have hs : ∃ q, s = u ++ y :: q := by
      obtain ⟨q, hq⟩ := List.takeWhile_prefix (fun x => !(x == 58)) (l := s)
      refine ⟨v ++ q, ?_⟩
      rw [← hq, show s.takeWhile (fun x => !(x == 58)) = u ++ y :: v from h1]
      simp
    obtain ⟨q, rfl⟩ := hs
    have hy : ¬ y = 58 := by
      rintro rfl
      have := List.all_takeWhile (p := fun x => !(x == 58)) (l := u ++ 58 :: q)
      rw [show (u ++ 58 :: q).takeWhile (fun x => !(x == 58)) = u ++ 58 :: v from h1] at this
      simp at this
    rw [List.append_assoc, List.cons_append, word_any f u y _ h2 h3 (fun _ h => h13 (by rw [h]; simp)), if_neg (fun g => hy g.2)]
theorem field_end (f : Nat) (s : List UInt8) (h13 : 13 ∉ s) : fieldsH (f + 1) s = if (fieldR s false).1 = true then .error 0 else .error 3 := by
  unfold fieldR
  by_cases hc : (preL s 58).all wordB = false
  · rw [if_pos hc]
    have := field_bad (f := f) (t := []) h13 hc
    rw [List.append_nil] at this
    rw [this]; rfl
  · rw [if_neg hc]
    have hc2 : (preL s 58).all wordB = true := by simpa using hc
    rcases pre_split s 58 with ⟨h1, h2, h3⟩ | ⟨v, h1, h2, h3, h4⟩
    · rw [if_neg h3]
      rw [h2] at hc2
      cases s with
      | nil => rfl
      | cons c u =>
        rw [List.all_cons, Bool.and_eq_true] at hc2
        have hc13 : ¬ c = 13 := by rintro rfl; simp at h13
        rw [fieldsH_peek hc13, show nextH wordB (c :: u) = .ok (c, u) from by simp [nextH, hc2.1], bindH_ok, run_all _ u hc2.2, bindH_err]
        rfl
    · rw [if_pos h3, h4]
      obtain ⟨W, hW⟩ : ∃ W, preL s 58 = W := ⟨_, rfl⟩
      rw [hW] at h1 hc2 ⊢
      have hv : 13 ∉ v := fun h => h13 (by rw [h1]; simp [h])
      rw [h1, word_any f W 58 v hc2 (by decide) (fun _ => by decide)]
      unfold colonR
      by_cases hW0 : W = []
      · rw [if_pos hW0, if_neg (fun h => h.1 hW0)]; rfl
      rw [if_neg hW0, if_pos ⟨hW0, rfl⟩]
      by_cases hs : v.all shownB = false
      · rw [if_pos hs]
        by_cases hh : W.map lowerB = hostL
        · rw [if_pos hh, host_end v hv, value_not false hs]
        · rw [if_neg hh, other_end f v hv, hs]
      · have hs2 : v.all shownB = true := by simpa using hs
        rw [if_neg hs]
        by_cases hh : W.map lowerB = hostL
        · rw [if_pos hh, if_pos hh, host_end v hv]
        · rw [if_neg hh, if_neg hh, other_end f v hv, hs2]
theorem field_line (f : Nat) (s r : List UInt8) (h13 : 13 ∉ s) (hs0 : s ≠ []) : fieldsH (f + 1) (s ++ 13 :: r) = if (fieldR s true).1 = true then bindH (textH [13, 10] (13 :: r)) fun _ u => if (fieldR s true).2.1 = true then .ok ((1, (fieldR s true).2.2), u) else fieldsH f u else .error 3 := by
  unfold fieldR
  by_cases hc : (preL s 58).all wordB = false
  · rw [if_pos hc, field_bad h13 hc]; rfl
  · rw [if_neg hc]
    have hc2 : (preL s 58).all wordB = true := by simpa using hc
    rcases pre_split s 58 with ⟨h1, h2, h3⟩ | ⟨v, h1, h2, h3, h4⟩
    · rw [if_neg h3]
      rw [h2] at hc2
      rw [word_any f s 13 r hc2 (by decide) (fun h => absurd h hs0), if_neg (by rintro ⟨_, h⟩; exact absurd h (by decide))]
      rfl
    · rw [if_pos h3, h4]
      obtain ⟨W, hW⟩ : ∃ W, preL s 58 = W := ⟨_, rfl⟩
      rw [hW] at h1 hc2 ⊢
      have hv : 13 ∉ v := fun h => h13 (by rw [h1]; simp [h])
      rw [h1, List.append_assoc, List.cons_append, word_any f W 58 (v ++ 13 :: r) hc2 (by decide) (fun _ => by decide)]
      unfold colonR
      by_cases hW0 : W = []
      · rw [if_pos hW0, if_neg (fun h => h.1 hW0)]; rfl
      rw [if_neg hW0, if_pos ⟨hW0, rfl⟩]
      by_cases hs : v.all shownB = false
      · rw [if_pos hs]
        by_cases hh : W.map lowerB = hostL
        · rw [if_pos hh, host_line v r hv, value_not true hs]; rfl
        · rw [if_neg hh, other_line f v r hv, hs]; rfl
      · have hs2 : v.all shownB = true := by simpa using hs
        rw [if_neg hs]
        by_cases hh : W.map lowerB = hostL
        · rw [if_pos hh, if_pos hh, host_line v r hv]
          have hv2 : (valueR v true).2.1 = true := rfl
          rw [hv2]
          rfl
        · rw [if_neg hh, if_neg hh, other_line f v r hv, hs2]
          rfl

/-! lines -/
def tellH (e : RH (Int × List UInt8)) : Int × List UInt8 := match e with
  | .error k => (k, [])
  | .ok (x, _) => x
theorem stepL_one (fst : Bool) (H : List UInt8) (next : List UInt8 → Int × List UInt8) (d : UInt8) : stepL fst H next [d] = if fst = false ∧ H = [] then (0, []) else lastL fst H true := rfl
theorem stepL_two (fst : Bool) (H : List UInt8) (next : List UInt8 → Int × List UInt8) (d x : UInt8) (u : List UInt8) : stepL fst H next (d :: x :: u) = if x ≠ 10 then (3, []) else if fst = true then (if (firstR H true).1 = false then (3, []) else if (firstR H true).2 ≠ [] then (1, (firstR H true).2) else next u)
    else if H = [] then (2, []) else if (fieldR H true).1 = false then (3, []) else if (fieldR H true).2.1 = true then (1, (fieldR H true).2.2) else next u := rfl
theorem tell_if (c : Bool) : tellH (if c = true then .error 0 else .error 3) = if c = false then (3, []) else (0, []) := by cases c <;> rfl
theorem line_at (l : List UInt8) : 13 ∉ preL l 13 ∧ ((preL l 13 = l ∧ l.drop (preL l 13).length = []) ∨ ∃ r, l = preL l 13 ++ 13 :: r ∧ l.drop (preL l 13).length = 13 :: r) := by
  rcases pre_split l 13 with ⟨h1, h2, h3⟩ | ⟨v, h1, h2, h3, h4⟩
  · refine ⟨by rw [h2]; exact h1, .inl ⟨h2, by rw [h2]; simp⟩⟩
  · refine ⟨h2, .inr ⟨v, h1, ?_⟩⟩
    obtain ⟨P, hP⟩ : ∃ P, preL l 13 = P := ⟨_, rfl⟩
    rw [hP] at h1 ⊢
    rw [h1]; simp
theorem fields_look : ∀ (f g : Nat) (l : List UInt8), l.length < f → l.length < g → tellH (fieldsH g l) = lookLR f false l
  | 0, g, l, hf, _ => by omega
  | f + 1, 0, l, _, hg => by omega
  | f + 1, g + 1, l, hf, hg => by
    obtain ⟨h13, hl⟩ := line_at l
    rw [lookLR]
    obtain ⟨H, hH⟩ : ∃ H, preL l 13 = H := ⟨_, rfl⟩
    rw [hH] at h13 hl ⊢
    rcases hl with ⟨rfl, hd⟩ | ⟨r, hlr, hd⟩
    · rw [hd, field_end g H h13, tell_if]
      rfl
    · rw [hd, hlr]
      have hlen : l.length = H.length + (r.length + 1) := by rw [hlr]; simp
      by_cases hH0 : H = []
      · subst hH0
        rw [List.nil_append]
        have hfi : fieldsH (g + 1) (13 :: r) = bindH (textH [13, 10] (13 :: r)) fun _ r => .ok ((2, []), r) := rfl
        rw [hfi]
        cases r with
        | nil => rfl
        | cons x u =>
          by_cases hx : x = 10
          · subst hx
            rfl
          · have : textH [13, 10] (13 :: x :: u) = .error 3 := by
              have hx' : (x == 10) = false := by simpa using hx
              simp [textH, nextH, hx', bindH]
            rw [this, bindH_err, stepL_two, if_pos hx]
            rfl
      · rw [field_line g H r h13 hH0]
        cases r with
        | nil =>
          have ht : textH [13, 10] [13] = .error 0 := rfl
          rw [ht, bindH_err, tell_if, stepL_one, if_neg (show ¬ (false = false ∧ H = []) from fun h => hH0 h.2)]
          rfl
        | cons x u =>
          by_cases hx : x = 10
          · subst hx
            rw [show textH [13, 10] (13 :: 10 :: u) = .ok ((), u) from rfl, bindH_ok]
            rw [stepL_two, if_neg (show ¬ ((10 : UInt8) ≠ 10) from by simp), if_neg (show ¬ (false = true) from by simp), if_neg hH0]
            have ih := fields_look f g u (by simp at hlen; omega) (by simp at hlen; omega)
            cases hc : (fieldR H true).1 with
            | false => rfl
            | true =>
              rw [if_pos rfl, if_neg (show ¬ (true = false) from by simp)]
              cases hc2 : (fieldR H true).2.1 with
              | false => exact ih
              | true => rfl
          · have : textH [13, 10] (13 :: x :: u) = .error 3 := by
              have hx' : (x == 10) = false := by simpa using hx
              simp [textH, nextH, hx', bindH]
            rw [this, bindH_err, stepL_two, if_pos hx]
            split <;> rfl
theorem look_same (b : List UInt8) (hb : b.length ≤ 90000) : lookR b = lookH b := by
  have hl : lookH b = tellH (headH b) := rfl
  rw [hl]
  unfold lookR headH
  obtain ⟨h13, hl⟩ := line_at b
  rw [lookLR]
  obtain ⟨H, hH⟩ : ∃ H, preL b 13 = H := ⟨_, rfl⟩
  rw [hH] at h13 hl ⊢
  rcases hl with ⟨rfl, hd⟩ | ⟨r, hlr, hd⟩
  · rw [hd, first_end H h13]
    simp only [stepL, lastL, if_true]
    cases (firstR H false).1 <;> rfl
  · have hlen : b.length = H.length + (r.length + 1) := by rw [hlr]; simp
    rw [hd]
    rw [show firstH b = firstH (H ++ 13 :: r) from by rw [← hlr], first_line H r h13]
    cases r with
    | nil =>
      have ht : textH [13, 10] [13] = .error 0 := rfl
      rw [ht, bindH_err, stepL_one, if_neg (by simp)]
      unfold lastL
      rw [if_pos rfl]
      cases (firstR H true).1 <;> rfl
    | cons x u =>
      by_cases hx : x = 10
      · subst hx
        rw [show textH [13, 10] (13 :: 10 :: u) = .ok ((), u) from rfl, bindH_ok]
        rw [stepL_two, if_neg (by simp), if_pos rfl]
        cases hc : (firstR H true).1 with
        | false => rfl
        | true =>
          rw [if_neg (by simp), if_pos rfl, bindH_ok]
          unfold orN
          by_cases hn : (firstR H true).2 = []
          · rw [if_neg (by simpa using hn), if_pos hn]
            exact (fields_look b.length 100000 u (by simp at hlen; omega) (by simp at hlen; omega)).symm
          · rw [if_pos hn, if_neg hn]
            rfl
      · have : textH [13, 10] (13 :: x :: u) = .error 3 := by
          have hx' : (x == 10) = false := by simpa using hx
          simp [textH, nextH, hx', bindH]
        rw [this, bindH_err, stepL_two, if_pos hx]
        split <;> rfl
end Go.Proofs.YtpoheemjdieogaaGreatDoor

namespace Go.Proofs.YtpoheemjdieogaaGreatDoor
open Go.RowKit Go.Lib
set_option linter.unusedVariables false
set_option linter.unusedSimpArgs false

set_option maxRecDepth 1000000 in
set_option maxHeartbeats 8000000 in
theorem rslook_any (w : World) (A : Option Addr) (n c : Nat) (b : List UInt8) (hb : BytesV w (.slice A n c) b) (hn : n ≤ 90000) (most : Int) (closed : Bool) :
    Calls Tryz.prog 10 #[.slice A n c, .int .i64 most, .bool closed] w fun en w' => en = .returned (.tuple #[.int .i64 (lookS b most closed).1, .string (lookS b most closed).2]) ∧ Keeps [] w w' := by
  obtain ⟨hl, _, _⟩ := hb.form
  obtain ⟨res, hres⟩ : ∃ r, lookS b most closed = r := ⟨_, rfl⟩
  rw [hres]
  obtain ⟨y, hy⟩ : ∃ y, look0 b = y := ⟨_, rfl⟩
  obtain ⟨k, nm⟩ := y
  have hd : res = if k ≠ 0 then (k, nm) else if most ≤ (n : Int) then (3, ByteArray.empty) else if closed = true then (2, ByteArray.empty) else (0, ByteArray.empty) := by
    rw [← hres]; unfold lookS; rw [hy, hl]
  have HD := Lib.hid hd
  clear hres hd
  cases b with
  | nil =>
    have hn0 : n = 0 := by simpa using hl
    subst hn0
    have hkk : ((0 : Int), ByteArray.empty) = (k, nm) := hy
    injection hkk with hk1 hk2
    subst hk1 hk2
    clear hb hl hy
    have HM := Lib.hid (Keeps.refl [] w)
    go_enter Tryz.func10, Tryz.ntmps10
    by_cases hm : most ≤ ((0 : Nat) : Int)
    · skip
      have hr : res = (3, ByteArray.empty) := by rw [HD.out, if_neg (show ¬ ((0 : Int) ≠ 0) from by simp), if_pos hm]
      subst hr
      clear HD
      go_wp2_with fail
      go_ret2
      exact ⟨rfl, Keeps.refl _ _⟩
    · cases closed with
      | true =>
        have hr : res = (2, ByteArray.empty) := by rw [HD.out, if_neg (show ¬ ((0 : Int) ≠ 0) from by simp), if_neg hm, if_pos rfl]
        subst hr
        clear HD
        go_wp2_with fail
        go_ret2
        exact ⟨rfl, Keeps.refl _ _⟩
      | false =>
        have hr : res = (0, ByteArray.empty) := by rw [HD.out, if_neg (show ¬ ((0 : Int) ≠ 0) from by simp), if_neg hm, if_neg (show ¬ (false = true) from by simp)]
        subst hr
        clear HD
        go_wp2_with fail
        go_ret2
        exact ⟨rfl, Keeps.refl _ _⟩
  | cons x t =>
    have hn0 : ¬ n = 0 := by rw [hl]; simp
    have hn1 : 0 < n := by omega
    obtain ⟨g, o, rfl, hcell⟩ := hb.get hn1
    have c0 : w.cell? ⟨g, o, none⟩ = some (.int .u8 (x.toNat : Int)) := hcell 0 x rfl
    clear hcell
    by_cases hx : x = 22
    · have hxi : ((x.toNat : Int) == 22) = true := by subst hx; rfl
      have hxn : ((x.toNat : Int) != 22) = false := by subst hx; rfl
      have HT := Lib.hid (rlook_any w (some ⟨g, o, none⟩) n c _ hb (by omega))
      rw [show lookP (x :: t) = (k, nm) from by rw [← hy]; exact (if_pos hx).symm] at HT
      clear hb hl hy hx
      go_enter Tryz.func10, Tryz.ntmps10
      go_wp2_with fail
      refine HT.out.mono ?_
      rintro en w1 ⟨rfl, k1⟩
      have K1 := Lib.hid k1
      have c1 : w1.cell? ⟨g, o, none⟩ = some (.int .u8 (x.toNat : Int)) := cell_keeps k1 c0 (by simp)
      clear k1 HT
      by_cases hk : k = 0
      · subst hk
        by_cases hm : most ≤ (n : Int)
        · have hr : res = (3, ByteArray.empty) := by rw [HD.out]; simp [hm]
          subst hr
          clear HD
          go_wp2_with fail
          go_ret2
          exact ⟨rfl, K1.out⟩
        · cases closed with
          | true =>
            have hr : res = (2, ByteArray.empty) := by rw [HD.out]; simp [hm]
            subst hr
            clear HD
            go_wp2_with fail
            go_ret2
            exact ⟨rfl, K1.out⟩
          | false =>
            have hr : res = (0, ByteArray.empty) := by rw [HD.out]; simp [hm]
            subst hr
            clear HD
            go_wp2_with fail
            go_ret2
            exact ⟨rfl, K1.out⟩
      · have hr : res = (k, nm) := by rw [HD.out]; simp [hk]
        subst hr
        have hkq : ((k : Int) != 0) = true := by simpa using hk
        clear HD
        go_wp2_with fail
        go_ret2
        exact ⟨rfl, K1.out⟩
    · have hxi : ((x.toNat : Int) == 22) = false := by
        rw [beq_eq_false_iff_ne]
        intro h
        exact hx (UInt8.toNat_inj.1 (show x.toNat = (22 : UInt8).toNat by have : (22 : UInt8).toNat = 22 := rfl; omega))
      have hxn : ((x.toNat : Int) != 22) = true := by rw [bne, hxi]; rfl
      have HT := Lib.hid (rhlook_any w (some ⟨g, o, none⟩) n c _ hb (by omega))
      rw [look_same _ (by omega), show lookH (x :: t) = (k, (lookH (x :: t)).2) from by rw [show k = (lookH (x :: t)).1 from (congrArg Prod.fst ((if_neg hx).symm.trans hy : ((lookH (x :: t)).1, (⟨(lookH (x :: t)).2.toArray⟩ : ByteArray)) = (k, nm))).symm]] at HT
      have hnm : bs (lookH (x :: t)).2 = nm := congrArg Prod.snd ((if_neg hx).symm.trans hy : ((lookH (x :: t)).1, (⟨(lookH (x :: t)).2.toArray⟩ : ByteArray)) = (k, nm))
      dsimp only at HT
      rw [hnm] at HT
      clear hb hl hy hx hnm
      go_enter Tryz.func10, Tryz.ntmps10
      go_wp2_with fail
      refine HT.out.mono ?_
      rintro en w1 ⟨rfl, k1⟩
      have K1 := Lib.hid k1
      clear k1 HT
      by_cases hk : k = 0
      · subst hk
        by_cases hm : most ≤ (n : Int)
        · have hr : res = (3, ByteArray.empty) := by rw [HD.out]; simp [hm]
          subst hr
          clear HD
          go_wp2_with fail
          go_ret2
          exact ⟨rfl, K1.out⟩
        · cases closed with
          | true =>
            have hr : res = (2, ByteArray.empty) := by rw [HD.out]; simp [hm]
            subst hr
            clear HD
            go_wp2_with fail
            go_ret2
            exact ⟨rfl, K1.out⟩
          | false =>
            have hr : res = (0, ByteArray.empty) := by rw [HD.out]; simp [hm]
            subst hr
            clear HD
            go_wp2_with fail
            go_ret2
            exact ⟨rfl, K1.out⟩
      · have hr : res = (k, nm) := by rw [HD.out]; simp [hk]
        subst hr
        have hkq : ((k : Int) != 0) = true := by simpa using hk
        clear HD
        go_wp2_with fail
        go_ret2
        exact ⟨rfl, K1.out⟩
end Go.Proofs.YtpoheemjdieogaaGreatDoor

