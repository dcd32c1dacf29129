/-
  The law HttpComes: the walk, over its arguments as they come in. Condition: the library's variables lie as listed. Printed by program.
-/
import Derived.Test.YtjppfdilfcokeaaDoorHttpK
import Derived.Test.YtjppfdilfcokeaaDoorHttpC
namespace Go.Proofs.YtjppfdilfcokeaaDoor
open Go.RowKit Go.Lib
set_option linter.unusedVariables false
set_option linter.unusedSimpArgs false

/-- what the loop has told so far -/
def StH (x : List UInt8) (i : Nat) (av lv nv : Value) : Prop :=
  (av = .int .i64 (-1) ∧ lv = .int .i64 0 ∧ nv = .string (bs []) ∧ ∀ j, j < i → (lookH (x.take j)).1 = 0) ∨
  ∃ (a : Nat) (k : Int) (nm : List UInt8), a < i ∧ a ≤ x.length ∧ av = .int .i64 a ∧ lv = .int .i64 k ∧ nv = .string (bs nm) ∧ k ≠ 0 ∧ lookH (x.take a) = (k, nm) ∧ ∀ j, j < a → (lookH (x.take j)).1 = 0
theorem take_stays {x : List UInt8} {a i : Nat} {y : Int × List UInt8} (h : lookH (x.take a) = y) (h0 : y.1 ≠ 0) (hi : a ≤ i) : lookH (x.take i) = y := by
  have h1 := lookH_stays (x.take a) ((x.take i).drop a) (by rw [h]; exact h0)
  have h2 : x.take a = (x.take i).take a := by rw [List.take_take, Nat.min_eq_left hi]
  rw [h2, List.take_append_drop] at h1
  rw [h1, ← h2, h]
theorem bs_nil_empty : (bs []).toList.isEmpty = true := by rw [Lib.toList_data]; rfl
theorem bs_ne {l : List UInt8} (h : l ≠ []) : (bs l).toList.isEmpty = false := by
  cases l with
  | nil => exact absurd rfl h
  | cons c l => exact bs_empty c l
/-- the end of what is told first -/
theorem first_end {x : List UInt8} {a : Nat} {k : Int} {nm : List UInt8} (ha : a ≤ x.length) (h : lookH (x.take a) = (k, nm)) (hk : k = 1 ∨ k = 2) (hm : ∀ j, j < a → (lookH (x.take j)).1 = 0) : 2 ≤ a ∧ x[a - 1]? = some 10 ∧ x[a - 2]? = some 13 := by
  have hl : (x.take a).length = a := by rw [List.length_take]; omega
  obtain ⟨p, hp⟩ := lookH_ends (b := x.take a) (by rw [h]; exact hk) (fun j hj => by rw [List.take_take, Nat.min_eq_left (by omega)]; exact hm j (by omega))
  have hpl : a = p.length + 2 := by rw [← hl, hp]; simp
  have e1 : x[a - 1]? = (x.take a)[a - 1]? := by rw [List.getElem?_take, if_pos (by omega)]
  have e2 : x[a - 2]? = (x.take a)[a - 2]? := by rw [List.getElem?_take, if_pos (by omega)]
  refine ⟨by omega, ?_, ?_⟩
  · rw [e1, hp, List.getElem?_append_right (by omega)]
    rw [show a - 1 - p.length = 1 by omega]; rfl
  · rw [e2, hp, List.getElem?_append_right (by omega)]
    rw [show a - 2 - p.length = 0 by omega]; rfl
theorem own_nil (w : World) (B : Nat) : OwnB w B (.slice none 0 0) [] := ⟨rfl, .inl ⟨rfl, rfl⟩⟩
theorem fold_nil : foldB (bs []) = bs [] ∧ foldIs (bs []) = false := by
  have h : foldA (bs []).data.toList = none := by kernel_rfl
  exact foldB_not h
theorem fold_told {nm : List UInt8} (h : foldA nm = some nm) : foldB (bs nm) = bs nm ∧ foldIs (bs nm) = true := foldB_at (s := bs nm) h
theorem told_app {x y : List UInt8} {a : Nat} {k : Int} {nm : List UInt8} (ha : a ≤ x.length) (h : lookH (x.take a) = (k, nm)) (hk : k ≠ 0) : lookH (x ++ y) = (k, nm) := by
  have h1 : (x ++ y).take a = x.take a := by rw [List.take_append_of_le_length ha]
  have h2 := take_stays (x := x ++ y) (y := (k, nm)) (i := (x ++ y).length) (by rw [h1]; exact h) hk (by simp; omega)
  rwa [List.take_length] at h2
set_option maxRecDepth 100000 in
set_option maxHeartbeats 16000000 in
theorem comes_walk (w : World) (hw : LW w) (A1 A2 : Option Addr) (n1 n2 c1 c2 : Nat) (l1 l2 : List UInt8) (hb1 : BytesV w (.slice A1 n1 c1) l1) (hb2 : BytesV w (.slice A2 n2 c2) l2) :
    Calls Tryd.prog 3 #[.slice A1 n1 c1, .slice A2 n2 c2] w fun e w' => e = .returned (.bool true) ∧ Keeps [] w w' := by
  obtain ⟨m1, hm1⟩ : ∃ m, min n1 600 = m := ⟨_, rfl⟩
  obtain ⟨m2, hm2⟩ : ∃ m, min n2 100 = m := ⟨_, rfl⟩
  obtain ⟨p1, p2⟩ := And.intro hb1.form.2.1 hb2.form.2.1
  have q1 : min (n1 : Int) 600 = (m1 : Int) := by omega
  have q2 : min (n2 : Int) 100 = (m2 : Int) := by omega
  have r1 : (m1 : Int) ≤ (c1 : Int) := by omega
  have r2 : (m2 : Int) ≤ (c2 : Int) := by omega
  have t1 : (0 : Int) ≤ (m1 : Int) := by omega
  have t2 : (0 : Int) ≤ (m2 : Int) := by omega
  obtain ⟨x1, hx1⟩ : ∃ x, l1.take m1 = x := ⟨_, rfl⟩
  obtain ⟨x2, hx2⟩ : ∃ x, l2.take m2 = x := ⟨_, rfl⟩
  have B1 := Lib.hid (show BytesV w (.slice A1 m1 c1) x1 by rw [← hx1]; exact hb1.cut (by omega))
  have B2 := Lib.hid (show BytesV w (.slice A2 m2 c2) x2 by rw [← hx2]; exact hb2.cut (by omega))
  have hl1 : x1.length = m1 := by have := B1.out.form.1; omega
  have hl2 : x2.length = m2 := by have := B2.out.form.1; omega
  have HL := Lib.hid (And.intro hl1 hl2)
  have hk1 : m1 ≤ 600 := by omega
  have hk2 : m2 ≤ 100 := by omega
  have hmc : m1 ≤ c1 := by omega
  have HW := Lib.hid hw
  clear hb1 hb2 hm1 hm2 p1 p2 hx1 hx2 hw hl1 hl2
  go_enter Tryd.func3, Tryd.ntmps3
  go_upto_region 1 with fail
  go_cut [0, 1] (fun bv mv wx => bv = .slice A1 m1 c1 ∧ mv = .slice A2 m2 c2 ∧ wx = w.drew)
  case first =>
    go_region_held3 (fun _ => True) (trivial) (fail)
    all_goals
      go_wp2_with fail
      go_meet
      exact ⟨rfl, rfl, rfl⟩
  case rest =>
    obtain ⟨rfl, rfl, hwx⟩ := hcut
    have HK0 := Lib.hid (show Keeps [] w wc by rw [hwx]; exact (Keeps.refl [] w).drew')
    clear hwx q1 q2 r1 r2 t1 t2
    go_wp2_with fail
    go_loopg [5, 6, 7, 8] (m1 + 1) (fun g av lv nv iv wx => ∃ i : Nat, iv = .int .i64 i ∧ i ≤ m1 + 1 ∧ g = m1 + 1 - i ∧ Hid (Keeps [] w wx) ∧ Hid (StH x1 i av lv nv))
    case atStart => exact ⟨0, rfl, by omega, by omega, HK0, Lib.hid (.inl ⟨rfl, rfl, rfl, fun j hj => by omega⟩)⟩
    case round =>
      obtain ⟨i, rfl, hi, hg, HKR, HST⟩ := hrel
      subst hg
      rcases Nat.lt_or_ge m1 i with hgt | hle
      · have hie : i = m1 + 1 := by omega
        subst hie
        have hleI : ¬ ((m1 : Int) + 1 ≤ (m1 : Int)) := by omega
        clear hgt hi
        go_wp2_with (at_builtin; first | (refine app_W rfl _ _ w HKR.out rfl _ ([]) rfl (own_nil wr _) _ x1 rfl (B1.out.keep0 HKR.out) (by have := HL.out; simp; omega) ?_; intro v2 w2 ho2 hk2') | (refine app_W rfl _ _ w hk2' rfl _ ([] ++ x1) rfl ho2 _ x2 rfl (B2.out.keep0 hk2') (by have := HL.out; simp; omega) ?_; intro v3 w3 ho3 hk3))
        have HO3 := Lib.hid (show OwnB w3 w.heap.size v3 (x1 ++ x2) from ho3)
        have HK3 := Lib.hid hk3
        have HL3 := Lib.hid (look_B w3 (HW.out.keep0 hk3) v3 (x1 ++ x2) HO3.out.bytes (by have := HL.out; simp; omega))
        clear ho2 hk2' ho3 hk3
        rcases HST.out with ⟨rfl, rfl, rfl, hm⟩ | ⟨a, k, nm, ha, hax, rfl, rfl, rfl, hk0, hla, hm⟩
        · clear hm HST
          obtain ⟨M, hM⟩ : ∃ M, lookH (x1 ++ x2) = M := ⟨_, rfl⟩
          rw [hM] at HL3
          refine HL3.out.mono ?_
          rintro e w21 ⟨rfl, k21⟩
          have HK21 := Lib.hid (HK3.out.trans k21)
          have HF := Lib.hid (fold_any w21 (HW.out.keep0 (HK3.out.trans k21)) (bs []))
          rw [fold_nil.1, fold_nil.2] at HF
          clear k21 HL3 hM
          go_wp2_with fail
          refine HF.out.mono ?_
          rintro e w22 ⟨rfl, k22⟩
          have HK22 := Lib.hid (HK21.out.trans k22)
          have HWK := Lib.hid (wakes_any w22 (HW.out.keep0 (HK21.out.trans k22)))
          clear k22 HF
          go_wp2_with fail
          refine HWK.out.mono ?_
          rintro e w23 ⟨rfl, k23⟩
          have HK23 := Lib.hid (HK22.out.trans k23)
          clear k23 HWK
          go_wp2_with fail
          go_ret
          exact ⟨rfl, HK23.out⟩
        · have hM := told_app (y := x2) hax hla hk0
          have haI : (0 : Int) ≤ (a : Int) := by omega
          have haI2 : ¬ (a : Int) < 0 := by omega
          have hE0 := bs_nil_empty
          have hsh : (k = 2 ∧ nm = []) ∨ (k = 3 ∧ nm = []) ∨ (k = 1 ∧ foldA nm = some nm) := by
            rcases lookH_shape (x1.take a) with h | h | h | ⟨n, h, hf⟩
            · rw [hla] at h; simp only [Prod.mk.injEq] at h; exact absurd h.1 hk0
            · rw [hla] at h; simp only [Prod.mk.injEq] at h; exact .inl h
            · rw [hla] at h; simp only [Prod.mk.injEq] at h; exact .inr (.inl h)
            · rw [hla] at h; simp only [Prod.mk.injEq] at h; exact .inr (.inr ⟨h.1, by rw [h.2]; exact hf⟩)
          rcases hsh with ⟨rfl, rfl⟩ | ⟨rfl, rfl⟩ | ⟨rfl, hf⟩
          · obtain ⟨ha2, ha10, ha13⟩ := first_end hax hla (.inr rfl) hm
            obtain ⟨p, rfl⟩ : ∃ p, a = p + 2 := ⟨a - 2, by omega⟩
            obtain ⟨g, o, rfl, hcell⟩ := B1.out.get (by have := HL.out.1; omega)
            have HC10 := Lib.hid (show w.cell? ⟨g, o + (p + 1), none⟩ = some (.int .u8 10) from hcell (p + 1) 10 ha10)
            have hpc : p + 2 ≤ m1 := by have := HL.out.1; omega
            clear hm HST hla hk0 hcell ha10 ha13 ha2 hax
            rw [hM] at HL3
            dsimp only at HL3
            refine HL3.out.mono ?_
            rintro e w21 ⟨rfl, k21⟩
            have HK21 := Lib.hid (HK3.out.trans k21)
            have HF := Lib.hid (fold_any w21 (HW.out.keep0 (HK3.out.trans k21)) (bs []))
            rw [fold_nil.1, fold_nil.2] at HF
            clear k21 HL3 hM
            go_wp2_with fail
            refine HF.out.mono ?_
            rintro e w22 ⟨rfl, k22⟩
            have HK22 := Lib.hid (HK21.out.trans k22)
            have HWK := Lib.hid (wakes_any w22 (HW.out.keep0 (HK21.out.trans k22)))
            clear k22 HF
            have c10 := cell_keeps HK22.out HC10.out (by simp)
            go_wp2_with fail
            refine HWK.out.mono ?_
            rintro e w23 ⟨rfl, k23⟩
            have HK23 := Lib.hid (HK22.out.trans k23)
            clear k23 HWK
            go_wp2_with fail
            go_ret
            exact ⟨rfl, HK23.out⟩
          · clear hm HST hla hk0
            rw [hM] at HL3
            dsimp only at HL3
            refine HL3.out.mono ?_
            rintro e w21 ⟨rfl, k21⟩
            have HK21 := Lib.hid (HK3.out.trans k21)
            have HF := Lib.hid (fold_any w21 (HW.out.keep0 (HK3.out.trans k21)) (bs []))
            rw [fold_nil.1, fold_nil.2] at HF
            clear k21 HL3 hM
            go_wp2_with fail
            refine HF.out.mono ?_
            rintro e w22 ⟨rfl, k22⟩
            have HK22 := Lib.hid (HK21.out.trans k22)
            have HWK := Lib.hid (wakes_any w22 (HW.out.keep0 (HK21.out.trans k22)))
            clear k22 HF
            go_wp2_with fail
            refine HWK.out.mono ?_
            rintro e w23 ⟨rfl, k23⟩
            have HK23 := Lib.hid (HK22.out.trans k23)
            clear k23 HWK
            go_wp2_with fail
            go_ret
            exact ⟨rfl, HK23.out⟩
          · obtain ⟨ha2, ha10, ha13⟩ := first_end hax hla (.inl rfl) hm
            obtain ⟨p, rfl⟩ : ∃ p, a = p + 2 := ⟨a - 2, by omega⟩
            obtain ⟨g, o, rfl, hcell⟩ := B1.out.get (by have := HL.out.1; omega)
            have HC10 := Lib.hid (show w.cell? ⟨g, o + (p + 1), none⟩ = some (.int .u8 10) from hcell (p + 1) 10 ha10)
            have HC13 := Lib.hid (show w.cell? ⟨g, o + p, none⟩ = some (.int .u8 13) from hcell p 13 ha13)
            have hpc : p + 2 ≤ m1 := by have := HL.out.1; omega
            have hE := bs_ne (foldA_some hf).1
            have HFT := Lib.hid (fold_told hf)
            clear hm HST hla hk0 hcell ha10 ha13 ha2 hax hf
            rw [hM] at HL3
            dsimp only at HL3
            refine HL3.out.mono ?_
            rintro e w21 ⟨rfl, k21⟩
            have HK21 := Lib.hid (HK3.out.trans k21)
            have HF := Lib.hid (fold_any w21 (HW.out.keep0 (HK3.out.trans k21)) (bs nm))
            rw [HFT.out.1, HFT.out.2] at HF
            clear k21 HL3 hM
            go_wp2_with fail
            refine HF.out.mono ?_
            rintro e w22 ⟨rfl, k22⟩
            have HK22 := Lib.hid (HK21.out.trans k22)
            have HWK := Lib.hid (wakes_any w22 (HW.out.keep0 (HK21.out.trans k22)))
            clear k22 HF
            have c10 := cell_keeps HK22.out HC10.out (by simp)
            have c13 := cell_keeps HK22.out HC13.out (by simp)
            go_wp2_with fail
            refine HWK.out.mono ?_
            rintro e w23 ⟨rfl, k23⟩
            have HK23 := Lib.hid (HK22.out.trans k23)
            clear k23 HWK
            go_wp2_with fail
            go_ret
            exact ⟨rfl, HK23.out⟩
      · have hleI : (i : Int) ≤ (m1 : Int) := by omega
        have hic : (i : Int) ≤ (c1 : Int) := by omega
        have hi0 : (0 : Int) ≤ (i : Int) := by omega
        have HLK := Lib.hid (look_any wr (HW.out.keep0 HKR.out) A1 i c1 (x1.take i) ((B1.out.keep0 HKR.out).cut (by omega)) (by omega))
        have HSH := Lib.hid (lookH_shape (x1.take i))
        rcases HST.out with ⟨rfl, rfl, rfl, hm⟩ | ⟨a, k, nm, ha, hax, rfl, rfl, rfl, hk0, hla, hm⟩
        · have HM := Lib.hid hm
          clear hm HST
          rcases HSH.out with hs | hs | hs | ⟨nm, hs, hf⟩
          · have HS := Lib.hid hs
            rw [hs] at HLK
            dsimp only at HLK
            have hE0 := bs_nil_empty
            clear hs HSH
            go_wp2_with fail
            refine HLK.out.mono ?_
            rintro e w20 ⟨rfl, k20⟩
            have HK20 := Lib.hid (HKR.out.trans k20)
            clear k20 HLK HKR
            go_wp2_with fail
            go_roundg (m1 + 1 - (i + 1))
            case measure => omega
            case rel => exact ⟨i + 1, by go_num, by omega, rfl, HK20, Lib.hid (.inl ⟨rfl, rfl, rfl, fun j hj => by rcases Nat.lt_or_ge j i with h | h; exact HM.out j h; rw [show j = i by omega, HS.out]⟩)⟩
          · have HS := Lib.hid hs
            rw [hs] at HLK
            dsimp only at HLK
            have hE0 := bs_nil_empty
            clear hs HSH
            go_wp2_with fail
            refine HLK.out.mono ?_
            rintro e w20 ⟨rfl, k20⟩
            have HK20 := Lib.hid (HKR.out.trans k20)
            clear k20 HLK HKR
            go_wp2_with fail
            go_roundg (m1 + 1 - (i + 1))
            case measure => omega
            case rel => exact ⟨i + 1, by go_num, by omega, rfl, HK20, Lib.hid (.inr ⟨i, 2, [], by omega, by have := HL.out.1; omega, rfl, rfl, rfl, by omega, HS.out, HM.out⟩)⟩
          · have HS := Lib.hid hs
            rw [hs] at HLK
            dsimp only at HLK
            have hE0 := bs_nil_empty
            clear hs HSH
            go_wp2_with fail
            refine HLK.out.mono ?_
            rintro e w20 ⟨rfl, k20⟩
            have HK20 := Lib.hid (HKR.out.trans k20)
            clear k20 HLK HKR
            go_wp2_with fail
            go_roundg (m1 + 1 - (i + 1))
            case measure => omega
            case rel => exact ⟨i + 1, by go_num, by omega, rfl, HK20, Lib.hid (.inr ⟨i, 3, [], by omega, by have := HL.out.1; omega, rfl, rfl, rfl, by omega, HS.out, HM.out⟩)⟩
          · have HS := Lib.hid hs
            rw [hs] at HLK
            dsimp only at HLK
            have hE := bs_ne (foldA_some hf).1
            clear hf
            have hE0 := bs_nil_empty
            clear hs HSH
            go_wp2_with fail
            refine HLK.out.mono ?_
            rintro e w20 ⟨rfl, k20⟩
            have HK20 := Lib.hid (HKR.out.trans k20)
            clear k20 HLK HKR
            go_wp2_with fail
            go_roundg (m1 + 1 - (i + 1))
            case measure => omega
            case rel => exact ⟨i + 1, by go_num, by omega, rfl, HK20, Lib.hid (.inr ⟨i, 1, nm, by omega, by have := HL.out.1; omega, rfl, rfl, rfl, by omega, HS.out, HM.out⟩)⟩
        · have HM := Lib.hid hm
          have HLA := Lib.hid hla
          have hs := take_stays hla hk0 (show a ≤ i by omega)
          have haI : (0 : Int) ≤ (a : Int) := by omega
          have haI2 : ¬ (a : Int) < 0 := by omega
          have HAX := Lib.hid hax
          clear hm hla HST
          have hsh : (k = 2 ∧ nm = []) ∨ (k = 3 ∧ nm = []) ∨ (k = 1 ∧ nm ≠ []) := by
            rcases HSH.out with h | h | h | ⟨n, h, hf⟩
            · rw [hs] at h; simp only [Prod.mk.injEq] at h; exact absurd h.1 hk0
            · rw [hs] at h; simp only [Prod.mk.injEq] at h; exact .inl h
            · rw [hs] at h; simp only [Prod.mk.injEq] at h; exact .inr (.inl h)
            · rw [hs] at h; simp only [Prod.mk.injEq] at h; exact .inr (.inr ⟨h.1, by rw [h.2]; exact (foldA_some hf).1⟩)
          clear hk0 hax
          rcases hsh with ⟨rfl, rfl⟩ | ⟨rfl, rfl⟩ | ⟨rfl, hne⟩
          · have HS := Lib.hid hs
            rw [hs] at HLK
            dsimp only at HLK
            have hE0 := bs_nil_empty
            clear hs HSH
            go_wp2_with fail
            refine HLK.out.mono ?_
            rintro e w20 ⟨rfl, k20⟩
            have HK20 := Lib.hid (HKR.out.trans k20)
            clear k20 HLK HKR
            go_wp2_with fail
            go_roundg (m1 + 1 - (i + 1))
            case measure => omega
            case rel => exact ⟨i + 1, by go_num, by omega, rfl, HK20, Lib.hid (.inr ⟨a, 2, [], by omega, HAX.out, rfl, rfl, rfl, by omega, HLA.out, HM.out⟩)⟩
          · have HS := Lib.hid hs
            rw [hs] at HLK
            dsimp only at HLK
            have hE0 := bs_nil_empty
            clear hs HSH
            go_wp2_with fail
            refine HLK.out.mono ?_
            rintro e w20 ⟨rfl, k20⟩
            have HK20 := Lib.hid (HKR.out.trans k20)
            clear k20 HLK HKR
            go_wp2_with fail
            go_roundg (m1 + 1 - (i + 1))
            case measure => omega
            case rel => exact ⟨i + 1, by go_num, by omega, rfl, HK20, Lib.hid (.inr ⟨a, 3, [], by omega, HAX.out, rfl, rfl, rfl, by omega, HLA.out, HM.out⟩)⟩
          · have HS := Lib.hid hs
            rw [hs] at HLK
            dsimp only at HLK
            have hE := bs_ne hne
            clear hne
            have hE0 := bs_nil_empty
            clear hs HSH
            go_wp2_with fail
            refine HLK.out.mono ?_
            rintro e w20 ⟨rfl, k20⟩
            have HK20 := Lib.hid (HKR.out.trans k20)
            clear k20 HLK HKR
            go_wp2_with fail
            go_roundg (m1 + 1 - (i + 1))
            case measure => omega
            case rel => exact ⟨i + 1, by go_num, by omega, rfl, HK20, Lib.hid (.inr ⟨a, 1, nm, by omega, HAX.out, rfl, rfl, rfl, by omega, HLA.out, HM.out⟩)⟩
end Go.Proofs.YtjppfdilfcokeaaDoor
