/-
  A contract of strings.ContainsAny at any string (not ASCII alone), of the law's six characters. Condition: the string has at most 300 bytes.
-/
import Derived.Test.YtjppfdilfcokeaaDoorHttpCA
namespace Go.Proofs.YtjppfdilfcokeaaDoor
open Go.RowKit Go.Lib
set_option linter.unusedVariables false
set_option linter.unusedSimpArgs false

def Clear (s : ByteArray) (i : Nat) : Prop := ∀ (j : Nat) b, j < i → s.data.toList[j]? = some b → sixB.data.toList.contains b = false
theorem Clear.zero (s : ByteArray) : Clear s 0 := fun j b h => absurd h (Nat.not_lt_zero _)
theorem Clear.one {s : ByteArray} {i : Nat} (h : Clear s i) {x : UInt8} (hx : s.data.toList[i]? = some x) (hn : sixB.data.toList.contains x = false) : Clear s (i + 1) := fun j b hj hb => by
  by_cases e : j = i
  · subst e; rw [hx] at hb; cases hb; exact hn
  · exact h j b (by omega) hb
theorem six_high {x : UInt8} (hx : 128 ≤ x.toNat) : sixB.data.toList.contains x = false := by
  have h := Lib.contains_iff_indexByte sixB.data.toList x
  have h1 : Lib.indexByte sixB.data.toList x = -1 := six_none hx 6 0
  rw [h1] at h
  exact h
theorem Clear.wide {s : ByteArray} {i : Nat} (h : Clear s i) (hi : i < s.size) (ha : 128 ≤ (s[i]'hi).toNat) : Clear s (i + (Utf8.decode s i).2) := fun j b hj hb => by
  by_cases e : j < i
  · exact h j b e hb
  · obtain ⟨k, rfl⟩ : ∃ k, j = i + k := ⟨j - i, by omega⟩
    obtain ⟨h1, h2⟩ := decode_wide s i k hi ha (by omega)
    have h3 : s.get! (i + k) = s[i + k]'h1 := get_at s (i + k) h1
    have h4 := Lib.data_getElem? s (i + k) h1
    rw [h4] at hb
    rw [h3] at h2
    cases hb
    exact six_high h2
theorem wide_le {s : ByteArray} {i : Nat} (hi : i < s.size) (ha : 128 ≤ (s[i]'hi).toNat) : i + (Utf8.decode s i).2 ≤ s.size := by
  have h1 := (decode_high s i hi ha).2
  have := (decode_wide s i ((Utf8.decode s i).2 - 1) hi ha (by omega)).1
  omega
theorem iterAt_below {w wx : World} {s : ByteArray} {p : Nat} (k : Below w.heap.size w wx) : Below w.heap.size w (wx.iterAt w.heap.size s p) := below_iterAt k (Nat.le_refl _) s p
theorem indexAny_neg : ∀ (s chars : List UInt8), Lib.indexAny s chars < 0 → ∀ b ∈ s, chars.contains b = false
  | [], _, _, b, hb => by simp at hb
  | c :: l, chars, h, b, hb => by
    have hg := Lib.indexAny_ge chars l
    unfold Lib.indexAny at h
    split at h
    · omega
    · rename_i hc
      split at h
      · rename_i h1
        rcases List.mem_cons.1 hb with e | e
        · rw [e]; simpa using hc
        · exact indexAny_neg l chars (by have := beq_iff_eq.1 h1; omega) b e
      · rename_i h1
        have : ¬ Lib.indexAny l chars = -1 := fun e => h1 (by rw [e]; rfl)
        omega
set_option maxRecDepth 1000000 in
set_option maxHeartbeats 8000000 in
/-- strings.IndexAny of a short string: what it tells where it tells a number below 0. -/
theorem iany_short (w : World) (s : ByteArray) (h8 : s.size ≤ 8) :
    Calls Tryd.prog 45 #[.string s, .string sixB] w fun e w' => (∃ n : Int, e = .returned (.int .i64 n) ∧ (n < 0 → Clear s s.size)) ∧ Below w.heap.size w w' := by
  have hemp : sixB.toList.isEmpty = false := by rw [Lib.toList_data]; rfl
  have hsz : sixB.size = 6 := rfl
  have h8z : decide ((8 : Int) < (s.size : Int)) = false := decide_eq_false (by omega)
  have hS : ∀ n w, Calls Tryd.prog 82 #[.int .i64 n] w fun e w' => e = .returned (.bool (decide (8 < n))) ∧ w' = w := fun n w => Any.strings_shouldUseASCIISet { Tryd.canyL with } n w
  obtain ⟨ab, hab⟩ : ∃ ab, w.heap.size = ab := ⟨_, rfl⟩
  rw [hab]
  have HAB := Lib.hid hab
  have k0 : Below ab w (w.iter s 0) := (Below.refl _ _).alloc (by rw [hab]; exact Nat.le_refl _) _
  have i0 : (w.iter s 0).heap[ab]? = some (.stringIter s 0) := by rw [← hab]; exact World.iter_heap w s 0
  obtain ⟨w0, hw0⟩ : ∃ w0, w.iter s 0 = w0 := ⟨_, rfl⟩
  rw [hw0] at k0 i0
  have K0 := Lib.hid k0
  have I0 := Lib.hid i0
  clear k0 i0
  go_enter Tryd.func45, Tryd.ntmps45
  go_wp2_with (first | (go_at_call 82; refine (hS _ _).mono ?_; rintro e w' ⟨rfl, hw⟩; rw [hw, h8z]))
  go_loopg [9, 10] s.size (fun g _ _ wx => ∃ i : Nat, i + g = s.size ∧ Below ab w wx ∧ wx.heap[ab]? = some (.stringIter s i) ∧ Clear s i)
  case atStart => exact ⟨0, by omega, K0.out, I0.out, Clear.zero s⟩
  case round =>
    obtain ⟨i, hig, kx, hkx, hno⟩ := hrel
    have HN := Lib.hid hno
    have KX := Lib.hid kx
    have HKX := Lib.hid hkx
    clear hno kx K0 I0
    cases gk with
    | zero =>
      obtain rfl : i = s.size := by omega
      have hnx := fun ty => run_next_end_at (P := Tryd.prog) wr ab s s.size ty hkx (by omega)
      clear hkx
      go_wp2
      go_ret
      exact ⟨⟨_, rfl, fun _ => HN.out⟩, KX.out⟩
    | succ g =>
      have hi : i < s.size := by omega
      obtain ⟨x, hx⟩ : ∃ x : UInt8, s[i]'hi = x := ⟨_, rfl⟩
      have hxl : s.data.toList[i]? = some x := by rw [← hx]; exact Lib.data_getElem? s i hi
      have HXL := Lib.hid hxl
      clear hxl
      by_cases hx128 : x.toNat < 128
      · have hnx := fun ty => run_next_ascii_at (P := Tryd.prog) wr ab s i ty hkx hi (by rw [hx]; exact hx128)
        rw [hx] at hnx
        have kn := below_iterAt KX.out (Nat.le_refl ab) s (i + 1)
        have hn := iterAt_heap wr ab s i (i + 1) hkx
        generalize wr.iterAt ab s (i + 1) = wn at hnx kn hn
        have KN := Lib.hid kn
        have HNN := Lib.hid hn
        clear hx hkx kn hn
        have hcon := Lib.contains_iff_indexByte sixB.data.toList x
        have hback : ((x.toNat : Int)).toNat.toUInt8 = x := by simp
        cases hin : sixB.data.toList.contains x
        · rw [hin] at hcon
          have hlt : ¬ ((0 : Int) ≤ Lib.indexByte sixB.data.toList x) := of_decide_eq_false hcon.symm
          clear hcon
          have HIN := Lib.hid hin
          clear hin
          go_wp2_with (first | (go_at_call 81; refine (Any.strings_IndexRune_ascii { Tryd.canyL with } _ _ _ (by omega) (by omega)).mono ?_; rintro e w' ⟨rfl, hw⟩; rw [hw, hback]))
          go_roundg g
          case measure => omega
          case rel => exact ⟨i + 1, by omega, KN.out, HNN.out, HN.out.one HXL.out HIN.out⟩
        · rw [hin] at hcon
          have hge : (0 : Int) ≤ Lib.indexByte sixB.data.toList x := of_decide_eq_true hcon.symm
          clear hcon hin
          go_wp2_with (first | (go_at_call 81; refine (Any.strings_IndexRune_ascii { Tryd.canyL with } _ _ _ (by omega) (by omega)).mono ?_; rintro e w' ⟨rfl, hw⟩; rw [hw, hback]))
          go_ret
          exact ⟨⟨_, rfl, fun h => absurd h (by omega)⟩, KN.out⟩
      · have ha : 128 ≤ (s[i]'hi).toNat := by rw [hx]; omega
        have hdh := decode_high s i hi ha
        have hwl := wide_le hi ha
        have HCW := Lib.hid (HN.out.wide hi ha)
        have hnx := fun ty => run_next_any_at (P := Tryd.prog) wr ab s i ty hkx hi
        have kn := below_iterAt KX.out (Nat.le_refl ab) s (i + (Utf8.decode s i).2)
        have hn := iterAt_heap wr ab s i (i + (Utf8.decode s i).2) hkx
        generalize wr.iterAt ab s (i + (Utf8.decode s i).2) = wn at hnx kn hn
        generalize Utf8.decode s i = dc at hnx hn hdh hwl HCW
        obtain ⟨r, wd⟩ := dc
        have hir := irune_any (r : Int) (by omega)
        have KN := Lib.hid kn
        have HNN := Lib.hid hn
        have HIR := Lib.hid hir
        have hbs : ab < wn.heap.size := (Array.getElem?_eq_some_iff.1 hn).1
        have HBS := Lib.hid hbs
        clear hx hkx kn hn hir ha hx128 hbs
        go_upto_if 53 with (first | (go_at_call 81; refine (HIR.out _).mono ?_; rintro e w' ⟨⟨n, rfl⟩, hw⟩))
        have KW := Lib.hid (KN.out.trans (hw.mono (Nat.le_of_lt HBS.out)))
        have hbw : w'.heap[ab]? = some (.stringIter s (i + wd)) := by rw [hw.block ab HBS.out]; exact HNN.out
        have HBW := Lib.hid hbw
        clear hbw hw
        by_cases hge : (0 : Int) ≤ n
        · go_wp2_with fail
          go_ret
          exact ⟨⟨_, rfl, fun h => absurd h (by omega)⟩, KW.out⟩
        · go_wp2_with fail
          go_roundg (g + 1 - wd)
          case measure => omega
          case rel => exact ⟨i + wd, by omega, KW.out, HBW.out, HCW.out⟩
theorem iany_any (w : World) (s : ByteArray) (hs : s.size ≤ 300) :
    Calls Tryd.prog 45 #[.string s, .string sixB] w fun e w' => (∃ n : Int, e = .returned (.int .i64 n) ∧ (n < 0 → Clear s s.size)) ∧ Below w.heap.size w w' := by
  by_cases h8 : s.size ≤ 8
  · exact iany_short w s h8
  · have h116 : (Tryd.prog.info? (Tryd.canyL_ren.t 116)).map (fun i => (i.zero, i.size)) = some (some (.agg (Array.replicate 256 (.bool false))), 256) := by kernel_rfl
    refine (Any.strings_IndexAny_long { Tryd.canyL with } (zero_of_info h116).1 (zero_of_info h116).2 s sixB w (by decide) (by omega) (by omega) (by decide) six_low).mono ?_
    rintro e w' ⟨rfl, rfl⟩
    refine ⟨⟨_, rfl, fun hn j b hj hb => ?_⟩, ((Below.refl _ _).alloc (Nat.le_refl _) _).alloc (by simp) _⟩
    have h1 := indexAny_neg s.data.toList sixB.data.toList hn b (List.mem_of_getElem? hb)
    exact h1
set_option maxHeartbeats 8000000 in
theorem cany_any (s : List UInt8) (hs : s.length ≤ 300) : CAny s := fun w _ => by
  have hz : (bs s).size ≤ 300 := by rw [bs_size]; exact hs
  have h : Calls Tryd.prog 45 #[.string (bs s), .string ⟨#[32, 9, 13, 10, 47, 63]⟩] w fun e w' => (∃ n : Int, e = .returned (.int .i64 n) ∧ (n < 0 → Clear (bs s) (bs s).size)) ∧ Below w.heap.size w w' := iany_any w (bs s) hz
  have hcl : Clear (bs s) (bs s).size → s.all cleanB = true := fun h => by
    rw [List.all_eq_true]
    intro c hc
    obtain ⟨j, hj⟩ := List.mem_iff_getElem?.1 hc
    have hjl : j < s.length := (List.getElem?_eq_some_iff.1 hj).1
    have h2 := h j c (by rw [bs_size]; exact hjl) hj
    unfold cleanB
    have h3 : ([32, 9, 13, 10, 47, 63] : List UInt8).contains c = false := h2
    rw [h3]; rfl
  have H := Lib.hid h
  have HC := Lib.hid hcl
  clear h hcl
  go_enter Tryd.func17, Tryd.ntmps17
  go_wp2_with (first | (go_at_call 45; refine H.out.mono ?_; rintro e w' ⟨⟨n, rfl, hn⟩, hw⟩))
  go_ret
  exact ⟨_, rfl, fun h => HC.out (hn (by have := of_decide_eq_false h; omega)), Below.keeps hw⟩
end Go.Proofs.YtjppfdilfcokeaaDoor
