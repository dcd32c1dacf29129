/-
  The plain law of folded names, as TlsFolds asks it. No condition.
-/
import Derived.Test.YthcpeceamiibaaaDoorTlsV
import Derived.Test.YthcpeceamiibaaaDoorTlsHas
namespace Go.Proofs.YthcpeceamiibaaaDoor
open Go.RowKit Go.ChangeShapes Go.WideShapes Go.ChangeAt Go.Joins Go.Lib
set_option linter.unusedVariables false
set_option linter.unusedSimpArgs false

set_option maxRecDepth 100000 in
theorem goodU_upper : ∀ i : Fin 256, goodU (UInt8.ofNat i.val) = true → goodU (upperB (UInt8.ofNat i.val)) = true ∧ lowerB (upperB (UInt8.ofNat i.val)) = lowerB (UInt8.ofNat i.val) ∧ (upperB (UInt8.ofNat i.val) = 46 ↔ UInt8.ofNat i.val = 46) := by decide
theorem goodU_up {c : UInt8} (h : goodU c = true) : goodU (upperB c) = true ∧ lowerB (upperB c) = lowerB c ∧ (upperB c = 46 ↔ c = 46) := by
  have := goodU_upper ⟨c.toNat, c.toNat_lt⟩
  simp only [UInt8.ofNat_toNat] at this
  exact this h
set_option maxRecDepth 100000 in
theorem goodU_lower : ∀ i : Fin 256, goodU (UInt8.ofNat i.val) = true → goodU (lowerB (UInt8.ofNat i.val)) = true ∧ lowerB (lowerB (UInt8.ofNat i.val)) = lowerB (UInt8.ofNat i.val) ∧ (lowerB (UInt8.ofNat i.val) = 46 ↔ UInt8.ofNat i.val = 46) := by decide
theorem goodU_low {c : UInt8} (h : goodU c = true) : goodU (lowerB c) = true ∧ lowerB (lowerB c) = lowerB c ∧ (lowerB c = 46 ↔ c = 46) := by
  have := goodU_lower ⟨c.toNat, c.toNat_lt⟩
  simp only [UInt8.ofNat_toNat] at this
  exact this h
theorem emptyP_map {f : UInt8 → UInt8} (hf : ∀ c, goodU c = true → (f c = 46 ↔ c = 46)) : ∀ (s : List UInt8) (a : Bool), (∀ b ∈ s, goodU b = true) → emptyP a (s.map f) = emptyP a s
  | [], a, _ => rfl
  | c :: t, a, h => by
    have hc := hf c (h c (by simp))
    have ht := fun x => emptyP_map hf t x (fun b hb => h b (by simp [hb]))
    rw [List.map_cons, emptyP, emptyP, ht, ht]
    by_cases e : c = 46
    · rw [if_pos e, if_pos (hc.2 e)]
    · rw [if_neg e, if_neg (fun e2 => e (hc.1 e2))]
theorem ascii_of {s l : List UInt8} (h : foldA s = some l) : ∀ b ∈ s, b.toNat < 128 := fun b hb => by
  have := (foldA_some h).2.2.2.1 b hb
  simp [goodU] at this
  exact this.1
theorem foldA_upper {s l : List UInt8} (h : foldA s = some l) : foldA (toUpperD s) = some l := by
  obtain ⟨h1, h2, h3, h4, h5⟩ := foldA_some h
  rw [toUpperD_ascii s (ascii_of h)]
  have := foldA_of (s := toUpperA s) (by simp [toUpperA, h1]) (by simp [toUpperA]; exact h2) (by unfold toUpperA; rw [emptyP_map (fun c hc => (goodU_up hc).2.2) s true h4]; exact h3) (by
    intro b hb
    simp only [toUpperA, List.mem_map] at hb
    obtain ⟨c, hc, rfl⟩ := hb
    exact (goodU_up (h4 c hc)).1)
  rw [this, h5]
  congr 1
  simp only [toUpperA, List.map_map]
  exact List.map_congr_left fun c hc => (goodU_up (h4 c hc)).2.1
theorem foldA_again {s l : List UInt8} (h : foldA s = some l) : foldA l = some l := by
  obtain ⟨h1, h2, h3, h4, rfl⟩ := foldA_some h
  have := foldA_of (s := s.map lowerB) (by simp [h1]) (by simp; exact h2) (by rw [emptyP_map (fun c hc => (goodU_low hc).2.2) s true h4]; exact h3) (by
    intro b hb
    simp only [List.mem_map] at hb
    obtain ⟨c, hc, rfl⟩ := hb
    exact (goodU_low (h4 c hc)).1)
  rw [this]
  congr 1
  simp only [List.map_map]
  exact List.map_congr_left fun c hc => (goodU_low (h4 c hc)).2.1
theorem foldA_len {s l : List UInt8} (h : foldA s = some l) : l.length = s.length := by rw [(foldA_some h).2.2.2.2]; simp
theorem foldA_low {s l : List UInt8} (h : foldA s = some l) : toLowerD s = l := by rw [toLowerD_ascii s (ascii_of h), (foldA_some h).2.2.2.2]; rfl
theorem emptyP_last : ∀ (p : List UInt8) (a : Bool), emptyP a (p ++ [46]) = true
  | [], a => by cases a <;> rfl
  | c :: t, a => by
    rw [List.cons_append, emptyP]
    split
    · rw [emptyP_last t true]; simp
    · exact emptyP_last t false
theorem emptyP_two : ∀ (p q : List UInt8) (a : Bool), emptyP a (p ++ 46 :: 46 :: q) = true
  | [], q, a => by simp [emptyP]
  | c :: t, q, a => by
    rw [List.cons_append, emptyP]
    split
    · rw [emptyP_two t q true]; simp
    · exact emptyP_two t q false
theorem foldA_first {s l : List UInt8} (h : foldA s = some l) : ∃ c, s[0]? = some c ∧ c ≠ 46 := by
  obtain ⟨h1, _, h3, _⟩ := foldA_some h
  cases s with
  | nil => exact absurd rfl h1
  | cons c t =>
    refine ⟨c, rfl, fun e => ?_⟩
    subst e
    rw [emptyP] at h3
    simp at h3
theorem foldA_last {s l : List UInt8} (h : foldA s = some l) : ∃ c, s[s.length - 1]? = some c ∧ c ≠ 46 := by
  obtain ⟨h1, _, h3, _⟩ := foldA_some h
  have hp : 0 < s.length := List.length_pos_iff.2 h1
  refine ⟨_, List.getElem?_eq_getElem (by omega), fun e => ?_⟩
  have : s = s.dropLast ++ [46] := by
    conv => lhs; rw [← List.dropLast_concat_getLast h1]
    rw [List.getLast_eq_getElem, e]
  rw [this, emptyP_last] at h3
  cases h3
theorem foldA_two {s l : List UInt8} (h : foldA s = some l) : Lib.contains s [46, 46] = false := by
  obtain ⟨_, _, h3, _⟩ := foldA_some h
  unfold Lib.contains
  rcases index_spec s [46, 46] with ⟨h1, _⟩ | ⟨i, h1, h2, h4, _⟩
  · rw [h1]; rfl
  · exfalso
    unfold occAt at h4
    obtain ⟨q, hq⟩ := List.isPrefixOf_iff_prefix.1 h4
    have : s = s.take i ++ 46 :: 46 :: q := by
      conv => lhs; rw [← List.take_append_drop i s]
      rw [← hq]
      rfl
    rw [this, emptyP_two] at h3
    cases h3
theorem foldB_at {s : ByteArray} {t : List UInt8} (h : foldA s.data.toList = some t) : foldB s = ⟨t.toArray⟩ ∧ foldIs s = true := by
  have e : s = ⟨s.data.toList.toArray⟩ := by cases s; simp
  have := foldB_some h
  rw [← e] at this
  exact this
theorem foldB_not {s : ByteArray} (h : foldA s.data.toList = none) : foldB s = ByteArray.empty ∧ foldIs s = false := by
  unfold foldB foldIs
  rw [foldL_eq, h]
  exact ⟨rfl, rfl⟩
theorem lower_any (w : World) (hw : LW w) (s : ByteArray) (hs : s.size < 35184372088832) : Calls Tryd.prog 12 #[.string s] w fun e w' => e = .returned (.string ⟨(toLowerD s.data.toList).toArray⟩) ∧ Keeps [] w w' :=
  (Any.strings_ToLower_any Tryd.lowerL Tryd.lowerX s w hs hw.case hw.utf8).mono fun e w' ⟨h, k⟩ => ⟨h, Below.keeps k⟩
theorem upper_any (w : World) (hw : LW w) (s : ByteArray) (hs : s.size < 35184372088832) : Calls Tryd.prog 16 #[.string s] w fun e w' => e = .returned (.string ⟨(toUpperD s.data.toList).toArray⟩) ∧ Keeps [] w w' :=
  (Any.strings_ToUpper_any Tryd.upperL Tryd.upperX s w hs hw.case hw.utf8).mono fun e w' ⟨h, k⟩ => ⟨h, Below.keeps k⟩
theorem has_any (w : World) (hw : LW w) (s b : ByteArray) (hs : s.size < 4294967281) : Calls Tryd.prog 17 #[.string s, .string b] w fun e w' => e = .returned (.bool (Lib.contains s.data.toList b.data.toList)) ∧ w' = w := by
  obtain ⟨m, hm⟩ := hw.maxl
  exact Any.strings_Contains Tryd.hasL s b m w hs hm
set_option maxRecDepth 100000 in
set_option maxHeartbeats 8000000 in
theorem folds_walk (w : World) (hw : LW w) (s0 : ByteArray) : Calls Tryd.prog 6 #[.string s0] w fun e w' => e = .returned (.bool true) ∧ Keeps [] w w' := by
  obtain ⟨m, hm⟩ : ∃ m, min s0.size 300 = m := ⟨_, rfl⟩
  have q1 : min (s0.size : Int) 300 = (m : Int) := by omega
  have r1 : (m : Int) ≤ (s0.size : Int) := by omega
  have t1 : (0 : Int) ≤ (m : Int) := by omega
  obtain ⟨s, hs⟩ : ∃ s, s0.extract 0 m = s := ⟨_, rfl⟩
  have hsz : s.size ≤ 300 := by rw [← hs, ByteArray.size_extract]; omega
  have HW := Lib.hid hw
  have HF := Lib.hid (fold_any w hw s)
  clear hm hw
  cases hf : foldA s.data.toList with
  | none =>
    obtain ⟨e1, e2⟩ := foldB_not hf
    rw [e1, e2] at HF
    clear hf e1 e2
    go_enter Tryd.func6, Tryd.ntmps6
    go_wp2_with fail
    refine HF.out.mono ?_
    rintro e w1 ⟨rfl, k1⟩
    have HK1 := Lib.hid k1
    have HAW := Lib.hid (awake_any w1 (HW.out.keep0 k1))
    clear k1 HF
    go_wp2_with fail
    refine HAW.out.mono ?_
    rintro e w2 ⟨rfl, k2⟩
    have HK2 := Lib.hid (HK1.out.trans k2)
    clear k2 HAW
    go_wp2_with fail
    go_ret
    exact ⟨rfl, HK2.out⟩
  | some t =>
    obtain ⟨e1, e2⟩ := foldB_at hf
    obtain ⟨L, hL⟩ : ∃ L : ByteArray, (⟨t.toArray⟩ : ByteArray) = L := ⟨_, rfl⟩
    have ht : L.data.toList = t := by rw [← hL]
    obtain ⟨e3, e4⟩ := foldB_at (s := L) (t := t) (by rw [ht]; exact foldA_again hf)
    obtain ⟨U, hU⟩ : ∃ U : ByteArray, (⟨(toUpperD s.data.toList).toArray⟩ : ByteArray) = U := ⟨_, rfl⟩
    obtain ⟨e5, e6⟩ := foldB_at (s := U) (t := t) (by rw [← hU]; exact foldA_upper hf)
    have hlow : (⟨(toLowerD s.data.toList).toArray⟩ : ByteArray) = L := by rw [foldA_low hf, hL]
    have hLs : L.size = s.size := by rw [size_eq, size_eq, ht]; exact foldA_len hf
    have h253 : (s.size : Int) ≤ 253 := by have := (foldA_some hf).2.1; rw [← size_eq] at this; omega
    have hpos : 0 < s.size := by have := List.length_pos_iff.2 (foldA_some hf).1; rw [← size_eq] at this; exact this
    have hcn := foldA_two hf
    rw [hL] at e1 e3 e5
    rw [e1, e2] at HF
    have HE := Lib.hid (And.intro e3 (And.intro e4 (And.intro e5 (And.intro e6 (And.intro hlow (And.intro hcn hU))))))
    have hb0 : ((s[0]'hpos).toNat : Int) ≠ 46 := by
      obtain ⟨c, hc, hne⟩ := foldA_first hf
      obtain ⟨hl, he⟩ := List.getElem?_eq_some_iff.1 hc
      have e : s[0]'hpos = c := he
      rw [e]
      have : c.toNat ≠ 46 := fun h => hne (UInt8.toNat_inj.1 h)
      omega
    have hb1 : ((s[s.size - 1]'(by omega)).toNat : Int) ≠ 46 := by
      obtain ⟨c, hc, hne⟩ := foldA_last hf
      rw [← size_eq] at hc
      obtain ⟨hl, he⟩ := List.getElem?_eq_some_iff.1 hc
      have e : s[s.size - 1]'(by omega) = c := he
      rw [e]
      have : c.toNat ≠ 46 := fun h => hne (UInt8.toNat_inj.1 h)
      omega
    have hb2 : (((s[0]'hpos).toNat : Int) != 46) = true := by simpa using hb0
    have hb3 : (((s[s.size - 1]'(by omega)).toNat : Int) != 46) = true := by simpa using hb1
    clear hf e1 e2 e3 e4 e5 e6 hlow hcn hU hL ht
    go_enter Tryd.func6, Tryd.ntmps6
    go_wp2_with fail
    refine HF.out.mono ?_
    rintro e w1 ⟨rfl, k1⟩
    have HK1 := Lib.hid k1
    have HF1 := Lib.hid (fold_any w1 (HW.out.keep0 k1) L)
    rw [HE.out.1, HE.out.2.1] at HF1
    clear k1 HF
    go_wp2_with fail
    refine HF1.out.mono ?_
    rintro e w2 ⟨rfl, k2⟩
    have HK2 := Lib.hid (HK1.out.trans k2)
    have HUP := Lib.hid (upper_any w2 (HW.out.keep0 (HK1.out.trans k2)) s (by omega))
    rw [HE.out.2.2.2.2.2.2] at HUP
    clear k2 HF1
    go_wp2_with fail
    refine HUP.out.mono ?_
    rintro e w3 ⟨rfl, k3⟩
    have HK3 := Lib.hid (HK2.out.trans k3)
    have HF2 := Lib.hid (fold_any w3 (HW.out.keep0 (HK2.out.trans k3)) U)
    rw [HE.out.2.2.1, HE.out.2.2.2.1] at HF2
    clear k3 HUP
    go_wp2_with fail
    refine HF2.out.mono ?_
    rintro e w4 ⟨rfl, k4⟩
    have HK4 := Lib.hid (HK3.out.trans k4)
    have HAW := Lib.hid (awake_any w4 (HW.out.keep0 (HK3.out.trans k4)))
    clear k4 HF2
    go_wp2_with fail
    refine HAW.out.mono ?_
    rintro e w5 ⟨rfl, k5⟩
    have HK5 := Lib.hid (HK4.out.trans k5)
    have HLO := Lib.hid (lower_any w5 (HW.out.keep0 (HK4.out.trans k5)) s (by omega))
    rw [HE.out.2.2.2.2.1] at HLO
    clear k5 HAW
    go_wp2_with fail
    refine HLO.out.mono ?_
    rintro e w6 ⟨rfl, k6⟩
    have HK6 := Lib.hid (HK5.out.trans k6)
    have HHA := Lib.hid (has_any w6 (HW.out.keep0 (HK5.out.trans k6)) s ⟨#[46, 46]⟩ (by omega))
    rw [show (⟨#[46, 46]⟩ : ByteArray).data.toList = [46, 46] from rfl, HE.out.2.2.2.2.2.1] at HHA
    clear k6 HLO
    go_wp2_with fail
    refine HHA.out.mono ?_
    rintro e w7 ⟨rfl, hw7⟩
    obtain rfl := hw7.symm
    clear hw7 HHA
    go_wp2_with fail
    go_ret
    exact ⟨rfl, HK6.out⟩
set_option maxRecDepth 100000 in
theorem tlsFolds_typed {H : Type} (enc : TypeId × Value → H) (W : World) (base : Nat) {v0 : Value} {d0 : DataW H} {p0 : List MemPlace}
    (o0 : Value.okWide Tryd.prog W .any base 9 v0) (h0 : DataW.Trod enc Tryd.prog W 0 (fun _ => true) true 9 v0 d0 p0) (hL : LW W) :
    Calls Tryd.prog 6 #[v0] W fun e W' => e = .returned (.bool true) ∧ Below W.heap.size W W' := by
  obtain ⟨s, rfl, _, _, hs⟩ := Go.ChangeMaps.open_string Tryd.underlying9 o0 h0
  exact (folds_walk W hL s).mono fun e W' ⟨he, k⟩ => ⟨he, k.below (Nat.le_refl _) (by simp)⟩
end Go.Proofs.YthcpeceamiibaaaDoor
