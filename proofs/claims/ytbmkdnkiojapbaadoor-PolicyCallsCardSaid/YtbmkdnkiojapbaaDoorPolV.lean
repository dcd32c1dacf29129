/-
  Plain facts of the law PolicyKnown: the bad rules, the many rules. No condition.
-/
import Derived.Test.YtbmkdnkiojapbaaDoorPolA
namespace Go.Proofs.YtbmkdnkiojapbaaDoor
open Go.RowKit Go.Lib
set_option linter.unusedVariables false
set_option linter.unusedSimpArgs false

/-- the same tests without the table -/
def foldBA (s : ByteArray) : ByteArray := match foldA s.data.toList with
  | some l => ⟨l.toArray⟩
  | none => ByteArray.empty
def foldIsA (s : ByteArray) : Bool := (foldA s.data.toList).isSome
def namedA (s : ByteArray) : Bool := s.data.toList.isEmpty || (foldIsA (hostB s) && (foldBA (hostB s)).data.toList == (hostB s).data.toList)
theorem namedA_eq (s : ByteArray) : namedOk s = namedA s := by
  unfold namedOk namedA foldIsA foldBA
  rw [foldB_eq, foldIs_eq, Lib.toList_data, Lib.toList_data, Lib.toList_data]
  cases foldA (hostB s).data.toList <;> rfl
def mayGoA (c : PC) : List (List UInt8) → List PR → Bool
  | _, [] => true
  | s, x :: t => namedA x.name && leadsOk c x && !(s.any fun y => y == x.name.data.toList) && mayGoA c (x.name.data.toList :: s) t
theorem mem_ba {y : ByteArray} {s : List ByteArray} : y ∈ s ↔ ((s.map fun z => z.data.toList).any fun z => z == y.data.toList) = true := by
  rw [List.any_map, List.any_eq_true]
  constructor
  · intro h; exact ⟨y, h, by simp⟩
  · rintro ⟨z, hz, h⟩
    have : z = y := ba_ext (by simpa using h)
    rw [← this]; exact hz
theorem mayGoA_eq (c : PC) : ∀ (l : List PR) (s : List ByteArray) (t : List (List UInt8)), (∀ z : List UInt8, z ∈ t ↔ z ∈ s.map fun y => y.data.toList) → mayGo c s l = mayGoA c t l
  | [], s, t, h => rfl
  | x :: r, s, t, h => by
    rw [mayGo, mayGoA, namedA_eq, mayGoA_eq c r (s ++ [x.name]) (x.name.data.toList :: t)]
    · congr 2
      congr 1
      rw [Bool.eq_iff_iff, decide_eq_true_iff, mem_ba, List.any_eq_true, List.any_eq_true]
      constructor
      · rintro ⟨z, hz, e⟩; exact ⟨z, (h z).2 hz, e⟩
      · rintro ⟨z, hz, e⟩; exact ⟨z, (h z).1 hz, e⟩
    · intro z
      simp only [List.mem_cons, h, List.map_append, List.mem_append, List.map_cons, List.map_nil, List.not_mem_nil, or_false]
      exact Or.comm
theorem mayL_A (c : PC) (l : List PR) : mayL c l = (mayGoA c [] l && decide (l.length ≤ 256)) := by
  unfold mayL
  rw [mayGoA_eq c l [] [] (by simp)]

/-- the many rules' names and they -/
def manyN (i : Nat) : ByteArray := ⟨#[97, UInt8.ofNat (97 + i % 26), UInt8.ofNat (97 + i / 26)]⟩
def manyR (i : Nat) : PR := ⟨manyN i, true, 0, 0⟩
def many (n : Nat) : List PR := (List.range n).map manyR
theorem many_len (n : Nat) : (many n).length = n := by simp [many]
theorem many_next (n : Nat) : many (n + 1) = many n ++ [manyR n] := by unfold many; rw [List.range_succ, List.map_append]; rfl
set_option maxRecDepth 100000 in
theorem may_many : mayL pc0 ((many 257).drop 1) = true := by
  rw [mayL_A]
  kernel_rfl
theorem may_too : mayL pc0 (many 257) = false := by
  unfold mayL
  rw [many_len]
  simp
theorem may_none : mayL pc0 [] = true := by kernel_rfl
theorem may_dup : mayL pc0 (rules0 ++ [⟨exB [42, 46, 101, 120, 97, 109, 112, 108, 101], true, 0, 0⟩]) = false := by
  rw [mayL_A]
  kernel_rfl
/-- what may not be -/
def bads : List PR := [⟨exB [65], false, 1, 1⟩, ⟨exB [42], false, 1, 1⟩, ⟨exB [42, 46], false, 1, 1⟩, ⟨exB [97, 46, 42], false, 1, 1⟩, ⟨exB [97], false, 0, 1⟩, ⟨exB [97], false, 1, 0⟩, ⟨exB [97], true, 0, 1⟩, ⟨exB [97], false, 3221225985, 1⟩, ⟨exB [97], false, 167772169, 1⟩, ⟨exB [42, 46, 42, 46, 97], false, 1, 1⟩]
theorem bads_bad : ∀ x ∈ bads, mayL pc0 [x] = false := by
  intro x hx
  have h : (bads.all fun x => !(mayGoA pc0 [] [x] && decide ([x].length ≤ 256))) = true := by kernel_rfl
  have := List.all_eq_true.1 h x hx
  rw [mayL_A]
  simpa using this
theorem hasL_A (l : List PR) (s : ByteArray) : hasL l s = l.any fun x => x.name.data.toList == s.data.toList := by
  unfold hasL
  congr 1
  funext x
  rw [Lib.toList_data, Lib.toList_data]
set_option maxRecDepth 100000 in
theorem find_aaa : findT (tabL ((many 257).drop 1)) (foldB ⟨#[97, 97, 97]⟩) = none := by
  have e : foldB ⟨#[97, 97, 97]⟩ = ⟨#[97, 97, 97]⟩ := by rw [foldB_eq]; kernel_rfl
  rw [e]
  apply findT_none
  intro z hz
  apply find_of_not
  have h0 : hasL ((many 257).drop 1) ⟨#[97, 97, 97]⟩ = false := by rw [hasL_A]; kernel_rfl
  have h1 : hasL ((many 257).drop 1) ⟨#[]⟩ = false := by rw [hasL_A]; kernel_rfl
  have e2 : namesB ⟨#[97, 97, 97]⟩ = [⟨#[97, 97, 97]⟩, ⟨#[]⟩] := by
    unfold namesB
    have e3 : upB ⟨#[97, 97, 97]⟩ 3 = [⟨#[97, 97, 97]⟩] := by
      simp only [upB]
      rw [Lib.toList_data]
      rfl
    show upB ⟨#[97, 97, 97]⟩ 3 ++ _ = _
    rw [e3]
    rfl
  rw [e2] at hz
  simp only [List.mem_cons, List.not_mem_nil, or_false] at hz
  rcases hz with rfl | rfl
  · exact h0
  · exact h1
set_option maxRecDepth 100000 in
theorem find_aba : (findT (tabL ((many 257).drop 1)) (foldB ⟨#[97, 98, 97]⟩)).isSome = true := by
  have e : foldB ⟨#[97, 98, 97]⟩ = ⟨#[97, 98, 97]⟩ := by rw [foldB_eq]; kernel_rfl
  rw [e]
  obtain ⟨x, hx, _⟩ := findT_own (l := (many 257).drop 1) (f := ⟨#[97, 98, 97]⟩) (by rw [Lib.toList_data]; rfl) (by rw [hasL_A]; kernel_rfl)
  rw [hx]; rfl
theorem find_empty (f : ByteArray) : findT (tabL []) f = none := by
  apply findT_none
  intro z _
  exact find_of_not rfl
end Go.Proofs.YtbmkdnkiojapbaaDoor
