/-
  A contract of strings.ContainsAny at any string (not ASCII alone), of the law's six characters: what it tells where it tells false. Condition: the string has at most 300 bytes.
-/
import Derived.Test.YtjppfdilfcokeaaDoorHttpAo
import Derived.Shelf.Strings.IndexAnyAll
import Derived.Shelf.Small.Utf8
import Derived.Laws.RangeAny
import Derived.Lib.OthersKept
import Derived.Deep.LoopGhost
namespace Go.Proofs.YtjppfdilfcokeaaDoor
open Go.RowKit Go.Lib
set_option linter.unusedVariables false
set_option linter.unusedSimpArgs false

theorem decode_wide (s : ByteArray) (pos k : Nat) (h : pos < s.size) (ha : 128 ≤ (s[pos]'h).toNat) (hk : k < (Utf8.decode s pos).2) : pos + k < s.size ∧ 128 ≤ (s.get! (pos + k)).toNat := by
  have hn : ¬ (s[pos]'h).toNat < 128 := by omega
  have h0 : 128 ≤ (s.get! (pos + 0)).toNat := by rw [get_at s pos h]; exact ha
  have hc : ∀ j, (decide (pos + j < s.size) && (s.get! (pos + j)).toNat / 64 == 2) = true → pos + j < s.size ∧ 128 ≤ (s.get! (pos + j)).toNat := fun j e => by
    rw [Bool.and_eq_true, decide_eq_true_eq, beq_iff_eq] at e
    exact ⟨e.1, by omega⟩
  have hz : k = 0 → pos + k < s.size ∧ 128 ≤ (s.get! (pos + k)).toNat := fun e => by subst e; exact ⟨h, h0⟩
  by_cases hk0 : k = 0
  · exact hz hk0
  unfold Utf8.decode at hk
  simp only [get_at s pos h, hn, if_false] at hk
  split at hk
  · rename_i c2
    rw [Bool.and_eq_true] at c2
    have : k < 2 := by split at hk <;> simp at hk <;> omega
    obtain rfl : k = 1 := by omega
    exact hc 1 c2.2
  split at hk
  · rename_i c3
    rw [Bool.and_eq_true, Bool.and_eq_true] at c3
    have : k < 3 := by split at hk <;> simp at hk <;> omega
    by_cases e1 : k = 1
    · subst e1; exact hc 1 c3.1.2
    obtain rfl : k = 2 := by omega
    exact hc 2 c3.2
  split at hk
  · rename_i c4
    rw [Bool.and_eq_true, Bool.and_eq_true, Bool.and_eq_true] at c4
    have : k < 4 := by split at hk <;> simp at hk <;> omega
    by_cases e1 : k = 1
    · subst e1; exact hc 1 c4.1.1.2
    by_cases e2 : k = 2
    · subst e2; exact hc 2 c4.1.2
    obtain rfl : k = 3 := by omega
    exact hc 3 c4.2
  · simp at hk; omega

theorem encode_cases (r : Int) (h : 128 ≤ r) :
    (∃ a x : UInt8, Utf8.encode r = ⟨#[a, x]⟩ ∧ 128 ≤ x.toNat) ∨ (∃ a b x : UInt8, Utf8.encode r = ⟨#[a, b, x]⟩ ∧ 128 ≤ x.toNat) ∨ (∃ a b c x : UInt8, Utf8.encode r = ⟨#[a, b, c, x]⟩ ∧ 128 ≤ x.toNat) := by
  unfold Utf8.encode
  have hc : 128 ≤ (if Utf8.valid r then r.toNat else Utf8.runeError) := by
    split
    · omega
    · decide
  revert hc
  generalize (if Utf8.valid r then r.toNat else Utf8.runeError) = c
  intro hc
  have hx : 128 ≤ (UInt8.ofNat (0x80 + c % 64)).toNat := by
    rw [UInt8.toNat_ofNat']
    omega
  simp only []
  rw [if_neg (by omega)]
  split
  · exact .inl ⟨_, _, rfl, hx⟩
  split
  · exact .inr (.inl ⟨_, _, _, rfl, hx⟩)
  · exact .inr (.inr ⟨_, _, _, _, rfl, hx⟩)

def sixB : ByteArray := ⟨#[32, 9, 13, 10, 47, 63]⟩
theorem six_low : ∀ (j : Nat) (b : UInt8), sixB.data.toList[j]? = some b → b.toNat < 128 := fun j b hb => by
  have h2 : b ∈ ([32, 9, 13, 10, 47, 63] : List UInt8) := List.mem_of_getElem? hb
  simp only [List.mem_cons, List.not_mem_nil, or_false] at h2
  rcases h2 with h | h | h | h | h | h <;> rw [h] <;> decide

/-- strings.IndexRune of the six characters at a rune beyond ASCII: an int. -/
def IRune (r : Int) : Prop := ∀ w : World, Calls Tryd.prog 81 #[.string sixB, .int .i32 r] w fun e w' => (∃ n : Int, e = .returned (.int .i64 n)) ∧ Below w.heap.size w w'
theorem ib_six (w : World) (s : ByteArray) (c : Int) : Calls Tryd.prog 63 #[.string s, .int .u8 c] w fun e w' => e = .returned (.int .i64 (Lib.indexByte s.data.toList c.toNat.toUInt8)) ∧ w' = w :=
  Any.strings_IndexByte Tryd.ibL s c w
set_option maxRecDepth 1000000 in
set_option maxHeartbeats 8000000 in
theorem irune_err : IRune 65533 := fun w => by
  have hsz : sixB.size = 6 := rfl
  go_enter Tryd.func81, Tryd.ntmps81
  go_upto_if 160 with fail
  go_wp2_with fail
  go_loopg [5, 6] 6 (fun g _ _ wx => ∃ i : Nat, i + g = 6 ∧ wx = w.iter sixB i)
  case atStart => exact ⟨0, by omega, rfl⟩
  case round =>
    obtain ⟨i, hig, rfl⟩ := hrel
    cases gk with
    | zero =>
      obtain rfl : i = 6 := by omega
      have hnx := run_next_end (P := Tryd.prog) w sixB 6
      go_wp2
      go_ret
      exact ⟨⟨_, rfl⟩, (Below.refl _ _).alloc (Nat.le_refl _) _⟩
    | succ g =>
      have hi : i < sixB.size := by rw [hsz]; omega
      obtain ⟨x, hx⟩ : ∃ x : UInt8, sixB[i]'hi = x := ⟨_, rfl⟩
      have hxl : sixB.data.toList[i]? = some x := by rw [← hx]; exact Lib.data_getElem? sixB i hi
      have hx128 : x.toNat < 128 := six_low i x hxl
      have hnx := fun ty => run_next_ascii (P := Tryd.prog) w sixB i ty hi (by rw [hx]; exact hx128)
      rw [hx] at hnx
      clear hxl hx
      have hb : ((x.toNat : Int) == 65533) = false := beq_eq_false_iff_ne.2 (by omega)
      go_wp2_with fail
      go_roundg g
      case measure => omega
      case rel => exact ⟨i + 1, by omega, rfl⟩
theorem six_none {x : UInt8} (hx : 128 ≤ x.toNat) (n k : Nat) : Lib.indexByte (List.take n (List.drop k sixB.data.toList)) x = -1 := by
  have h := Lib.contains_iff_indexByte (List.take n (List.drop k sixB.data.toList)) x
  have hg := Lib.indexByte_ge (List.take n (List.drop k sixB.data.toList)) x
  have hf : (List.take n (List.drop k sixB.data.toList)).contains x = false := by
    cases hc : (List.take n (List.drop k sixB.data.toList)).contains x with
    | false => rfl
    | true =>
      have hm : x ∈ sixB.data.toList := List.mem_of_mem_drop (List.mem_of_mem_take (List.contains_iff_mem.1 hc))
      obtain ⟨j, hj⟩ := List.mem_iff_getElem?.1 hm
      have := six_low j x hj
      omega
  rw [hf] at h
  have := of_decide_eq_false h.symm
  omega
set_option maxRecDepth 1000000 in
set_option maxHeartbeats 8000000 in
theorem irune_v2 (r : Int) (h : 128 ≤ r) (hne : ¬ r = 65533) (a x : UInt8) (he : Utf8.encode r = ⟨#[a, x]⟩) (hx : 128 ≤ x.toNat) : IRune r := fun w => by
  have hsz : sixB.size = 6 := rfl
  have h1 : ¬ r < 128 := by omega
  have hb : (r == 65533) = false := beq_eq_false_iff_ne.2 hne
  have hV : ∀ w, Calls Tryd.prog 100 #[.int .i32 r] w fun e w' => e = .returned (.bool (Lib.validRune r)) ∧ w' = w := fun w => Any.utf8_ValidRune { Tryd.canyL with } r w
  have hib : Lib.indexByte (List.take 4 (List.drop 2 sixB.data.toList)) x = -1 := six_none hx 4 2
  obtain ⟨y, hy⟩ : ∃ y : UInt8, sixB[1]'(by decide) = y := ⟨_, rfl⟩
  have hy1 : y.toNat < 128 := six_low 1 y (by rw [← hy]; rfl)
  have hxy : ((y.toNat : Int) == (x.toNat : Int)) = false := beq_eq_false_iff_ne.2 (by omega)
  obtain ⟨q, hq⟩ : ∃ q : ByteArray, (⟨#[a, x]⟩ : ByteArray) = q := ⟨_, rfl⟩
  have hqs : q.size = 2 := by rw [← hq]; rfl
  have hqx : q[1]'(by rw [hqs]; decide) = x := by subst hq; rfl
  rw [hq] at he
  have hw2 : IntKind.i64.wrap 2 = 2 := by decide
  cases hv : Lib.validRune r with
  | false =>
    go_enter Tryd.func81, Tryd.ntmps81
    go_upto_if 160 with fail
    go_upto_if 171 with fail
    go_wp2_with (first | (go_at_call 100; refine (hV _).mono ?_; rintro e w' ⟨rfl, rfl⟩; rw [hv]))
    go_ret
    exact ⟨⟨_, rfl⟩, Below.refl _ _⟩
  | true =>
    go_enter Tryd.func81, Tryd.ntmps81
    go_upto_if 160 with fail
    go_upto_if 171 with fail
    go_upto_if 183 with (first | (go_at_call 100; refine (hV _).mono ?_; rintro e w' ⟨rfl, rfl⟩; rw [hv]))
    go_wp2_with fail
    go_step3
    go_wp2_with fail
    go_loopg [9] 0 (fun g v wx => wx = w' ∧ v = .int .i64 1)
    case atStart => exact ⟨rfl, rfl⟩
    case round =>
      obtain ⟨rfl, rfl⟩ := hrel
      go_wp2_with fail
      go_step3
      go_wp2_with fail
      go_region_law (fail)
      go_wp2_with fail
      all_goals go_region_law (go_simp; go_at_call 63; refine (ib_six _ _ _).mono ?_; rintro e w2 ⟨rfl, rfl⟩)
      all_goals go_wp2_with fail
      all_goals (simp only [Exit.noGoto_ret, go_sem]; go_ret)
      all_goals exact ⟨⟨_, rfl⟩, ⟨rfl, rfl, rfl, Nat.le_refl _, fun _ _ => rfl⟩⟩
set_option maxRecDepth 1000000 in
set_option maxHeartbeats 8000000 in
theorem irune_v3 (r : Int) (h : 128 ≤ r) (hne : ¬ r = 65533) (a b x : UInt8) (he : Utf8.encode r = ⟨#[a, b, x]⟩) (hx : 128 ≤ x.toNat) : IRune r := fun w => by
  have hsz : sixB.size = 6 := rfl
  have h1 : ¬ r < 128 := by omega
  have hb : (r == 65533) = false := beq_eq_false_iff_ne.2 hne
  have hV : ∀ w, Calls Tryd.prog 100 #[.int .i32 r] w fun e w' => e = .returned (.bool (Lib.validRune r)) ∧ w' = w := fun w => Any.utf8_ValidRune { Tryd.canyL with } r w
  have hib : Lib.indexByte (List.take 3 (List.drop 3 sixB.data.toList)) x = -1 := six_none hx 3 3
  obtain ⟨y, hy⟩ : ∃ y : UInt8, sixB[2]'(by decide) = y := ⟨_, rfl⟩
  have hy1 : y.toNat < 128 := six_low 2 y (by rw [← hy]; rfl)
  have hxy : ((y.toNat : Int) == (x.toNat : Int)) = false := beq_eq_false_iff_ne.2 (by omega)
  obtain ⟨q, hq⟩ : ∃ q : ByteArray, (⟨#[a, b, x]⟩ : ByteArray) = q := ⟨_, rfl⟩
  have hqs : q.size = 3 := by rw [← hq]; rfl
  have hqx : q[2]'(by rw [hqs]; decide) = x := by subst hq; rfl
  rw [hq] at he
  have hw2 : IntKind.i64.wrap 3 = 3 := by decide
  cases hv : Lib.validRune r with
  | false =>
    go_enter Tryd.func81, Tryd.ntmps81
    go_upto_if 160 with fail
    go_upto_if 171 with fail
    go_wp2_with (first | (go_at_call 100; refine (hV _).mono ?_; rintro e w' ⟨rfl, rfl⟩; rw [hv]))
    go_ret
    exact ⟨⟨_, rfl⟩, Below.refl _ _⟩
  | true =>
    go_enter Tryd.func81, Tryd.ntmps81
    go_upto_if 160 with fail
    go_upto_if 171 with fail
    go_upto_if 183 with (first | (go_at_call 100; refine (hV _).mono ?_; rintro e w' ⟨rfl, rfl⟩; rw [hv]))
    go_wp2_with fail
    go_step3
    go_wp2_with fail
    go_loopg [9] 0 (fun g v wx => wx = w' ∧ v = .int .i64 2)
    case atStart => exact ⟨rfl, rfl⟩
    case round =>
      obtain ⟨rfl, rfl⟩ := hrel
      go_wp2_with fail
      go_step3
      go_wp2_with fail
      go_region_law (fail)
      go_wp2_with fail
      all_goals go_region_law (go_simp; go_at_call 63; refine (ib_six _ _ _).mono ?_; rintro e w2 ⟨rfl, rfl⟩)
      all_goals go_wp2_with fail
      all_goals (simp only [Exit.noGoto_ret, go_sem]; go_ret)
      all_goals exact ⟨⟨_, rfl⟩, ⟨rfl, rfl, rfl, Nat.le_refl _, fun _ _ => rfl⟩⟩
set_option maxRecDepth 1000000 in
set_option maxHeartbeats 8000000 in
theorem irune_v4 (r : Int) (h : 128 ≤ r) (hne : ¬ r = 65533) (a b c x : UInt8) (he : Utf8.encode r = ⟨#[a, b, c, x]⟩) (hx : 128 ≤ x.toNat) : IRune r := fun w => by
  have hsz : sixB.size = 6 := rfl
  have h1 : ¬ r < 128 := by omega
  have hb : (r == 65533) = false := beq_eq_false_iff_ne.2 hne
  have hV : ∀ w, Calls Tryd.prog 100 #[.int .i32 r] w fun e w' => e = .returned (.bool (Lib.validRune r)) ∧ w' = w := fun w => Any.utf8_ValidRune { Tryd.canyL with } r w
  have hib : Lib.indexByte (List.take 2 (List.drop 4 sixB.data.toList)) x = -1 := six_none hx 2 4
  obtain ⟨y, hy⟩ : ∃ y : UInt8, sixB[3]'(by decide) = y := ⟨_, rfl⟩
  have hy1 : y.toNat < 128 := six_low 3 y (by rw [← hy]; rfl)
  have hxy : ((y.toNat : Int) == (x.toNat : Int)) = false := beq_eq_false_iff_ne.2 (by omega)
  obtain ⟨q, hq⟩ : ∃ q : ByteArray, (⟨#[a, b, c, x]⟩ : ByteArray) = q := ⟨_, rfl⟩
  have hqs : q.size = 4 := by rw [← hq]; rfl
  have hqx : q[3]'(by rw [hqs]; decide) = x := by subst hq; rfl
  rw [hq] at he
  have hw2 : IntKind.i64.wrap 4 = 4 := by decide
  cases hv : Lib.validRune r with
  | false =>
    go_enter Tryd.func81, Tryd.ntmps81
    go_upto_if 160 with fail
    go_upto_if 171 with fail
    go_wp2_with (first | (go_at_call 100; refine (hV _).mono ?_; rintro e w' ⟨rfl, rfl⟩; rw [hv]))
    go_ret
    exact ⟨⟨_, rfl⟩, Below.refl _ _⟩
  | true =>
    go_enter Tryd.func81, Tryd.ntmps81
    go_upto_if 160 with fail
    go_upto_if 171 with fail
    go_upto_if 183 with (first | (go_at_call 100; refine (hV _).mono ?_; rintro e w' ⟨rfl, rfl⟩; rw [hv]))
    go_wp2_with fail
    go_step3
    go_wp2_with fail
    go_loopg [9] 0 (fun g v wx => wx = w' ∧ v = .int .i64 3)
    case atStart => exact ⟨rfl, rfl⟩
    case round =>
      obtain ⟨rfl, rfl⟩ := hrel
      go_wp2_with fail
      go_step3
      go_wp2_with fail
      go_region_law (fail)
      go_wp2_with fail
      all_goals go_region_law (go_simp; go_at_call 63; refine (ib_six _ _ _).mono ?_; rintro e w2 ⟨rfl, rfl⟩)
      all_goals go_wp2_with fail
      all_goals (simp only [Exit.noGoto_ret, go_sem]; go_ret)
      all_goals exact ⟨⟨_, rfl⟩, ⟨rfl, rfl, rfl, Nat.le_refl _, fun _ _ => rfl⟩⟩
theorem irune_any (r : Int) (h : 128 ≤ r) : IRune r := by
  by_cases hne : r = 65533
  · rw [hne]; exact irune_err
  · rcases encode_cases r h with ⟨a, x, he, hx⟩ | ⟨a, b, x, he, hx⟩ | ⟨a, b, c, x, he, hx⟩
    · exact irune_v2 r h hne a x he hx
    · exact irune_v3 r h hne a b x he hx
    · exact irune_v4 r h hne a b c x he hx
end Go.Proofs.YtjppfdilfcokeaaDoor
