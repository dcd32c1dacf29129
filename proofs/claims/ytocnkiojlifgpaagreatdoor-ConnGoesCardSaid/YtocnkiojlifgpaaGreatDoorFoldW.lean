/-
  The walk of tls.Fold: what it tells is the plain law's. Condition: the library's tables lie as the row lists them; the string is no longer than a string may be.
-/
import Derived.Test.YtocnkiojlifgpaaGreatDoorPolL
import Derived.Test.YtocnkiojlifgpaaGreatDoorFoldP
import Derived.Test.YtocnkiojlifgpaaGreatDoorKitB
import Derived.Lib.ConvBytes
import Derived.Lib.SplitLaws
import Derived.Lib.SlicesS
import Derived.Lib.Hide
namespace Go.Proofs.YtocnkiojlifgpaaGreatDoor
open Go.RowKit Go.Lib
set_option linter.unusedVariables false
set_option linter.unusedSimpArgs false

/-- the library's variables that Fold reads lie as the row lists them -/
structure LW (w : World) : Prop where
  maxl : ∃ m, w.cell? ⟨Tryz.splitL_ren.g 1, 0, none⟩ = some (.int .i64 m)
  case : CaseVar (Tryz.lowerL_ren.g 13) caseA w
  utf8 : Utf8Tabs (Tryz.lowerL_ren.g 3) (Tryz.lowerL_ren.g 4) w
theorem LW.below {w w' : World} (h : LW w) (k : Below w.heap.size w w') : LW w' := by
  obtain ⟨m, hm⟩ := h.maxl
  exact ⟨⟨m, (k.cell (World.block_lt_of_cell? w _ hm)).trans hm⟩, CaseVar_below h.case k, Utf8Tabs_below h.utf8 k⟩
theorem LW.keep0 {w w' : World} (h : LW w) (k : Keeps [] w w') : LW w' := h.below (k.below (Nat.le_refl _) (by simp))

def foldB (s : ByteArray) : ByteArray := match foldL s.data.toList with
  | some l => ⟨l.toArray⟩
  | none => ByteArray.empty
def foldIs (s : ByteArray) : Bool := (foldL s.data.toList).isSome

def badZ (c : Int) : Bool := (decide (c < 97) || decide (122 < c)) && (decide (c < 48) || decide (57 < c)) && c != 45 && c != 95 && c != 46
set_option maxRecDepth 100000 in
theorem badZ_all : ∀ i : Fin 256, badZ i.val = badB (UInt8.ofNat i.val) := by decide
theorem badZ_eq (x : UInt8) : badZ x.toNat = badB x := by
  have := badZ_all ⟨x.toNat, x.toNat_lt⟩
  simpa using this

set_option maxRecDepth 100000 in
set_option maxHeartbeats 2000000 in
theorem foldbad_any (w : World) (x : UInt8) : Calls Tryz.prog 61 #[.int .u8 x.toNat] w fun e w' => e = .returned (.bool (badB x)) ∧ w' = w := by
  rw [← badZ_eq]
  obtain ⟨c, hc⟩ : ∃ c : Int, (x.toNat : Int) = c := ⟨_, rfl⟩
  rw [hc]
  clear hc
  by_cases h1 : c < 97
  · by_cases h3 : c < 48
    · skip
      go_enter Tryz.func61, Tryz.ntmps61
      go_wp2_with fail
      all_goals (go_ret; exact ⟨by simp [badZ, *] <;> omega, rfl⟩)
    · by_cases h4 : 57 < c
      · skip
        go_enter Tryz.func61, Tryz.ntmps61
        go_wp2_with fail
        all_goals (go_ret; exact ⟨by simp [badZ, *] <;> omega, rfl⟩)
      · skip
        go_enter Tryz.func61, Tryz.ntmps61
        go_wp2_with fail
        all_goals (go_ret; exact ⟨by simp [badZ, *] <;> omega, rfl⟩)
  · by_cases h2 : 122 < c
    · have h3 : ¬ c < 48 := by omega
      have h4 : 57 < c := by omega
      go_enter Tryz.func61, Tryz.ntmps61
      go_wp2_with fail
      all_goals (go_ret; exact ⟨by simp [badZ, *] <;> omega, rfl⟩)
    · skip
      go_enter Tryz.func61, Tryz.ntmps61
      go_wp2_with fail
      all_goals (go_ret; exact ⟨by simp [badZ, *] <;> omega, rfl⟩)

theorem contains_empty (zs : List ByteArray) : containsS zs ⟨#[]⟩ = zs.any (·.size == 0) := by
  rw [Bool.eq_iff_iff, containsS_iff, List.any_eq_true]
  constructor
  · intro h
    exact ⟨_, h, rfl⟩
  · rintro ⟨x, hx, hs⟩
    have : x = ⟨#[]⟩ := by
      obtain ⟨⟨l⟩⟩ := x
      cases l with
      | nil => rfl
      | cons a l => simp [ByteArray.size] at hs
    rw [← this]; exact hx
theorem lower_len : ∀ (n : Nat) (l : List UInt8), l.length ≤ n → (toLowerD l).length ≤ 4 * l.length
  | n, [], _ => by simp [toLowerD, mapD, mapGoD]
  | 0, c :: t, h => by simp at h
  | n + 1, c :: t, h => by
    have hw := decodeL_width (c :: t)
    have hle := decodeL_le (c :: t) (by simp)
    have hr := decodeL_rune (c :: t)
    have hy := (toLowerU_range (decodeL (c :: t)).1 hr).1
    have hs : toLowerD (c :: t) = encodeRune (toLowerU (decodeL (c :: t)).1) ++ toLowerD ((c :: t).drop (decodeL (c :: t)).2) := by
      unfold toLowerD
      rw [mapD_step toLowerU (c :: t) (by simp), if_pos hy]
    have h4 := (encodeRuneZ_length (toLowerU (decodeL (c :: t)).1)).2
    have h5 : (encodeRune (toLowerU (decodeL (c :: t)).1)).length = (encodeRuneZ (toLowerU (decodeL (c :: t)).1)).length := by simp [encodeRune]
    have hdl : ((c :: t).drop (decodeL (c :: t)).2).length = t.length + 1 - (decodeL (c :: t)).2 := by simp
    have ih := lower_len n ((c :: t).drop (decodeL (c :: t)).2) (by rw [hdl]; simp at h; omega)
    rw [hs, List.length_append, h5]
    rw [hdl] at ih
    simp only [List.length_cons] at hle ⊢
    omega
theorem foldIs_nil : foldL [] = none := by simp [foldL]
set_option maxRecDepth 100000 in
set_option maxHeartbeats 2000000 in
theorem fold_any (w : World) (hw : LW w) (s : ByteArray) : Calls Tryz.prog 20 #[.string s] w fun e w' => e = .returned (.tuple #[.string (foldB s), .bool (foldIs s)]) ∧ Keeps [] w w' := by
  by_cases h0 : s = ByteArray.empty
  · subst h0
    have e1 : foldB ByteArray.empty = ByteArray.empty := rfl
    have e2 : foldIs ByteArray.empty = false := rfl
    rw [e1, e2]
    go_enter Tryz.func20, Tryz.ntmps20
    go_wp2_with fail
    refine bodyPost_ret (v := .tuple #[.string ByteArray.empty, .bool false]) (by simp [results, Tryz.results20, go_sem]; rfl) rfl ⟨rfl, Keeps.refl _ _⟩
  · have hne : s.data.toList ≠ [] := fun e => h0 (by obtain ⟨⟨l⟩⟩ := s; simp at e; subst e; rfl)
    have hE : s.toList.isEmpty = false := by rw [Lib.toList_data]; cases h : s.data.toList with
      | nil => exact absurd h hne
      | cons a l => rfl
    have hsl : s.data.toList.length = s.size := (size_eq s).symm
    by_cases h1 : 253 < s.size
    · have hf : foldL s.data.toList = none := by
        unfold foldL
        rw [if_pos (.inr (.inl (by omega)))]
      have e1 : foldB s = ByteArray.empty := by unfold foldB; rw [hf]
      have e2 : foldIs s = false := by unfold foldIs; rw [hf]; rfl
      rw [e1, e2]
      have h1' : (253 : Int) < (s.size : Int) := by omega
      go_enter Tryz.func20, Tryz.ntmps20
      go_wp2_with fail
      refine bodyPost_ret (v := .tuple #[.string ByteArray.empty, .bool false]) (by simp [results, Tryz.results20, go_sem]; rfl) rfl ⟨rfl, Keeps.refl _ _⟩
    · have h1' : ¬ (253 : Int) < (s.size : Int) := by omega
      obtain ⟨rb, hrb⟩ : ∃ rb, foldB s = rb := ⟨_, rfl⟩
      obtain ⟨ri, hri⟩ : ∃ ri, foldIs s = ri := ⟨_, rfl⟩
      rw [hrb, hri]
      obtain ⟨low, hlow⟩ : ∃ low : ByteArray, (⟨(toLowerD s.data.toList).toArray⟩ : ByteArray) = low := ⟨_, rfl⟩
      have hll : low.data.toList = toLowerD s.data.toList := by rw [← hlow]
      obtain ⟨m, hm⟩ := hw.maxl
      have HSP := Lib.hid (split_empty s)
      have HRB := Lib.hid hrb
      have HRI := Lib.hid hri
      have HLL := Lib.hid hll
      have HSL := Lib.hid hsl
      have HNE := Lib.hid hne
      have HM := Lib.hid hm
      have HW := Lib.hid hw
      have H1 := Lib.hid h1
      clear hrb hri hll hsl hne hm hw h0 h1
      go_enter Tryz.func20, Tryz.ntmps20
      have h1'' : s.size < 4294967281 := by omega
      go_wp2_with fail
      refine (Any.strings_Split { Tryz.splitL with } Tryz.splitL.i9 s ⟨#[46]⟩ m w h1'' HM.out (by decide)).mono ?_
      rintro e w1 ⟨rfl, rfl⟩
      obtain ⟨zs, hzs⟩ : ∃ zs, splitB ⟨#[46]⟩ 0 (countB s ⟨#[46]⟩) s = zs := ⟨_, rfl⟩
      obtain ⟨nz, hnz⟩ : ∃ nz, countB s ⟨#[46]⟩ + 1 = nz := ⟨_, rfl⟩
      have hzl : zs.length = nz := by rw [← hzs, ← hnz]; exact splitB_all ⟨#[46]⟩ (by decide) 0 _ s rfl
      rw [hzs] at HSP
      have hzb : nz ≤ 9223372036854775807 := by rw [← hnz]; have := countB_le ⟨#[46]⟩ (by decide) s.size s (Nat.le_refl _); omega
      rw [hzs, hnz]
      have HZL := Lib.hid hzl
      have HZB := Lib.hid hzb
      clear hzs hnz hzl hzb
      obtain ⟨w1, hw1⟩ : ∃ w1, w.alloc (.cells (zs.map Value.string).toArray (Tryz.splitL_ren.t 9)) = w1 := ⟨_, rfl⟩
      have hcells : ∀ j, j < zs.length → w1.cell? ⟨w.heap.size, 0 + j, none⟩ = some (.string (zs.getD j ByteArray.empty)) := fun j hj => by
        rw [← hw1, Nat.zero_add, World.cell?]
        have hh := (MapKept.heap_alloc w (.cells (zs.map Value.string).toArray (Tryz.splitL_ren.t 9))).1
        simp only [hh]
        simp [List.getD, hj]
      have k1 : Keeps [] w w1 := by rw [← hw1]; exact Keeps.alloc [] w _
      rw [hw1]
      have HC := Lib.hid hcells
      have K1 := Lib.hid k1
      clear hcells k1 hw1
      go_wp2_with fail
      refine (Any.slices_Contains_string Tryz.containsL w.heap.size 0 nz nz zs ⟨#[]⟩ w1 (by rw [HZL.out]; exact Nat.le_refl _) HZB.out HC.out).mono ?_
      rintro e w2 ⟨rfl, rfl⟩
      have hct : containsS (zs.take nz) ⟨#[]⟩ = emptyP true s.data.toList := by
        rw [List.take_of_length_le (by rw [HZL.out]; exact Nat.le_refl _), contains_empty]
        exact HSP.out
      rw [hct]
      clear hct
      obtain ⟨z, hz⟩ : ∃ z, emptyP true s.data.toList = z := ⟨_, rfl⟩
      rw [hz]
      have HZ := Lib.hid hz
      clear hz
      cases z with
      | true =>
        have hf : foldL s.data.toList = none := by
          unfold foldL
          rw [if_pos (.inr (.inr HZ.out))]
        have e1 : rb = ByteArray.empty := by rw [← HRB.out]; unfold foldB; rw [hf]
        have e2 : ri = false := by rw [← HRI.out]; unfold foldIs; rw [hf]; rfl
        subst e1 e2
        clear hf
        go_wp2_with fail
        refine bodyPost_ret (v := .tuple #[.string ByteArray.empty, .bool false]) (by simp [results, Tryz.results20, go_sem]; rfl) rfl ⟨rfl, K1.out⟩
      | false =>
        go_wp2_with fail
        have hs3 : s.size < 35184372088832 := by omega
        refine (Any.strings_ToLower_any Tryz.lowerL Tryz.lowerX s w2 hs3 (HW.out.keep0 K1.out).case (HW.out.keep0 K1.out).utf8).mono ?_
        rintro e w3 ⟨rfl, hb3⟩
        rw [hlow]
        have K3 := Lib.hid (K1.out.trans (Below.keeps hb3))
        clear hb3 hs3
        have hcv := Go.Lib.run_convert_string_bytes (P := Tryz.prog) w3 9 42 5 low (u := .string) Tryz.underlying9 Tryz.underlying42 Tryz.underlying5
        go_wp2_with fail
        refine calls_gn fun wg hwg => ?_
        have hkg : Keeps [] w3 wg := by rw [hwg]; exact Below.keeps ⟨rfl, rfl, rfl, by rw [bytesWorld_size]; omega, fun j hj => bytesWorld_at_old w3 _ low j hj⟩
        have hcb : ∀ j, j < low.data.toList.length → wg.cell? ⟨w3.heap.size, 0 + j, none⟩ = some (.int .u8 (low.data.toList[j]!).toNat) := fun j hj => by
          have hj' : j < low.size := by rw [size_eq]; exact hj
          rw [hwg, Nat.zero_add, bytesWorld_cell w3 _ low j hj']
          have e : low.data.toList.getD j 0 = low.data.toList[j]! := by rw [List.getD_eq_getElem?_getD, List.getElem!_eq_getElem?_getD]; rfl
          rw [e]
        have KG := Lib.hid (K3.out.trans hkg)
        have HCB := Lib.hid hcb
        clear hwg hkg hcb hcv
        have hls : low.size = low.data.toList.length := size_eq low
        have hbig : low.size ≤ 9223372036854775807 := by
          have h1 := lower_len _ s.data.toList (Nat.le_refl _)
          rw [← HLL.out, HSL.out] at h1
          omega
        refine (AnyE.slices_ContainsFunc Tryz.cfL (fun x : UInt8 => .int .u8 x.toNat) badB 61 #[] (enters_of Tryz.func61 (by kernel_rfl) rfl) w3.heap.size 0 low.size _ low.data.toList wg (fun W x _ => (foldbad_any W x).mono fun e w' ⟨h1, h2⟩ => ⟨h1, 0, h2⟩) (by rw [hls]; exact Nat.le_refl _) hbig HCB.out).mono ?_
        rintro e w4 ⟨rfl, q, rfl⟩
        rw [List.take_of_length_le (by rw [hls]; exact Nat.le_refl _)]
        obtain ⟨bz, hbz⟩ : ∃ bz, low.data.toList.any badB = bz := ⟨_, rfl⟩
        rw [hbz]
        have HBZ := Lib.hid hbz
        have HLS := Lib.hid hls
        clear hbz hls hbig
        have hfl : foldL s.data.toList = if low.data.toList.any badB = true ∨ low.data.toList.length ≠ s.data.toList.length then none else some low.data.toList := by
          unfold foldL
          rw [if_neg (by
            rintro (h | h | h)
            · exact HNE.out h
            · have := HSL.out; have := H1.out; omega
            · rw [HZ.out] at h; cases h), ← HLL.out]
        have HFL := Lib.hid hfl
        clear hfl
        by_cases hq : bz = false ∧ low.size = s.size
        · obtain ⟨rfl, hq2⟩ := hq
          have hf : foldL s.data.toList = some low.data.toList := by
            rw [HFL.out, if_neg]
            rintro (h | h)
            · rw [HBZ.out] at h; cases h
            · exact h (by rw [← HLS.out, HSL.out]; exact hq2)
          have e1 : rb = low := by rw [← HRB.out]; unfold foldB; rw [hf]
          have e2 : ri = true := by rw [← HRI.out]; unfold foldIs; rw [hf]; rfl
          subst e1 e2
          have hq3 : (rb.size : Int) = (s.size : Int) := by omega
          clear hf
          go_wp2_with fail
          refine bodyPost_ret (v := .tuple #[.string rb, .bool true]) (by simp [results, Tryz.results20, go_sem]) rfl ⟨rfl, KG.out.drewN' q⟩
        · have hf : foldL s.data.toList = none := by
            rw [HFL.out, if_pos]
            cases bz with
            | true => exact .inl HBZ.out
            | false => exact .inr (fun h => hq ⟨rfl, by rw [HLS.out, h, HSL.out]⟩)
          have e1 : rb = ByteArray.empty := by rw [← HRB.out]; unfold foldB; rw [hf]
          have e2 : ri = false := by rw [← HRI.out]; unfold foldIs; rw [hf]; rfl
          subst e1 e2
          clear hf
          cases bz with
          | true =>
            clear hq
            go_wp2_with fail
            refine bodyPost_ret (v := .tuple #[.string ByteArray.empty, .bool false]) (by simp [results, Tryz.results20, go_sem]; rfl) rfl ⟨rfl, KG.out.drewN' q⟩
          | false =>
            have hq2 : ¬ low.size = s.size := fun h => hq ⟨rfl, h⟩
            have hq3 : ¬ (low.size : Int) = (s.size : Int) := by omega
            clear hq
            go_wp2_with fail
            refine bodyPost_ret (v := .tuple #[.string ByteArray.empty, .bool false]) (by simp [results, Tryz.results20, go_sem]; rfl) rfl ⟨rfl, KG.out.drewN' q⟩
end Go.Proofs.YtocnkiojlifgpaaGreatDoor
