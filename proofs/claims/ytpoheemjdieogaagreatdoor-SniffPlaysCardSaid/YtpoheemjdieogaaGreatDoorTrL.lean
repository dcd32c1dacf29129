/-
  The walks of the document's Parts and Look of TLS: they tell what lookP tells. Condition: at most 100,000 bytes.
-/
import Derived.Test.YtpoheemjdieogaaGreatDoorTrH
namespace Go.Proofs.YtpoheemjdieogaaGreatDoor
open Go.RowKit Go.Lib
set_option linter.unusedVariables false
set_option linter.unusedSimpArgs false

def hdN (b : List UInt8) (i : Nat) : Nat := beN ((b.drop (i + 3)).take 2)
theorem parts_at (b out : List UInt8) (i : Nat) {c : UInt8} (hc : b[i]? = some c) : partsG (b.length - i) out (b.drop i) =
    if c ≠ 22 then (out, true) else if b.length < i + 5 then (out, false) else if b[i + 1]? ≠ some 3 ∨ hdN b i < 1 ∨ 16384 < hdN b i then (out, true)
    else partsG (b.length - min (i + 5 + hdN b i) b.length) (out ++ (b.drop (i + 5)).take (hdN b i)) (b.drop (min (i + 5 + hdN b i) b.length)) := by
  have hi : i < b.length := (List.getElem?_eq_some_iff.1 hc).1
  obtain ⟨k, hk⟩ : ∃ k, b.length - i = k + 1 := ⟨b.length - i - 1, by omega⟩
  have hd : b.drop i = c :: b.drop (i + 1) := by
    rw [List.drop_eq_getElem_cons hi]
    congr 1
    exact (List.getElem?_eq_some_iff.1 hc).2
  have h0 : partsG (k + 1) out (b.drop i) = if c ≠ 22 then (out, true) else if (b.drop i).length < 5 then (out, false)
      else if (b.drop i)[1]? ≠ some 3 ∨ beN (((b.drop i).drop 3).take 2) < 1 ∨ 16384 < beN (((b.drop i).drop 3).take 2) then (out, true)
      else partsG k (out ++ ((b.drop i).drop 5).take (beN (((b.drop i).drop 3).take 2))) (((b.drop i).drop 5).drop (beN (((b.drop i).drop 3).take 2))) := by
    rw [hd]
    rfl
  rw [hk, h0]
  have e1 : (b.drop i).length = b.length - i := by rw [List.length_drop]
  have e2 : (b.drop i)[1]? = b[i + 1]? := by rw [List.getElem?_drop]
  have e3 : ((b.drop i).drop 3).take 2 = (b.drop (i + 3)).take 2 := by rw [List.drop_drop]
  have e5 : (b.drop i).drop 5 = b.drop (i + 5) := by rw [List.drop_drop]
  rw [e1, e2, e3, e5]
  show (if c ≠ 22 then _ else if b.length - i < 5 then _ else if b[i + 1]? ≠ some 3 ∨ hdN b i < 1 ∨ 16384 < hdN b i then _ else partsG k (out ++ (b.drop (i + 5)).take (hdN b i)) ((b.drop (i + 5)).drop (hdN b i))) = _
  by_cases g1 : c ≠ 22
  · rw [if_pos g1, if_pos g1]
  · rw [if_neg g1, if_neg g1]
    by_cases g2 : b.length < i + 5
    · rw [if_pos g2, if_pos (show b.length - i < 5 by omega)]
    · rw [if_neg g2, if_neg (show ¬ b.length - i < 5 by omega)]
      by_cases g3 : b[i + 1]? ≠ some 3 ∨ hdN b i < 1 ∨ 16384 < hdN b i
      · rw [if_pos g3, if_pos g3]
      · rw [if_neg g3, if_neg g3, List.drop_drop]
        have e6 : b.drop (i + 5 + hdN b i) = b.drop (min (i + 5 + hdN b i) b.length) := by
          rcases Nat.le_total (i + 5 + hdN b i) b.length with h | h
          · rw [Nat.min_eq_left h]
          · rw [Nat.min_eq_right h, List.drop_eq_nil_of_le h, List.drop_eq_nil_of_le (Nat.le_refl _)]
        rw [e6]
        exact partsG_fuel _ _ _ _ (by rw [List.length_drop]; omega) (by rw [List.length_drop]; omega)
theorem hdN_two {b : List UInt8} {i : Nat} {x y : UInt8} (hx : b[i + 3]? = some x) (hy : b[i + 4]? = some y) : hdN b i = 256 * x.toNat + y.toNat := by
  have e : (b.drop (i + 3)).take 2 = [x, y] := by
    have h3 : i + 3 < b.length := (List.getElem?_eq_some_iff.1 hx).1
    have h4 : i + 4 < b.length := (List.getElem?_eq_some_iff.1 hy).1
    rw [List.drop_eq_getElem_cons h3, List.drop_eq_getElem_cons (by omega : i + 3 + 1 < b.length)]
    rw [show b[i + 3] = x from (List.getElem?_eq_some_iff.1 hx).2, show b[i + 3 + 1] = y from (List.getElem?_eq_some_iff.1 hy).2]
    rfl
  unfold hdN
  rw [e]
  show (0 * 256 + x.toNat) * 256 + y.toNat = _
  omega
set_option maxRecDepth 100000 in
set_option maxHeartbeats 8000000 in
theorem rparts_any (w : World) (A : Option Addr) (n c : Nat) (b : List UInt8) (hb : BytesV w (.slice A n c) b) (hn : n ≤ 100000) :
    Calls Tryz.prog 56 #[.slice A n c] w fun e w' => ∃ v, e = .returned (.tuple #[v, .bool (partsL b).2]) ∧ OwnB w' w.heap.size v (partsL b).1 ∧ Keeps [] w w' := by
  obtain ⟨hl, hnc, hcm⟩ := hb.form
  obtain ⟨R, hR⟩ : ∃ R, partsL b = R := ⟨_, rfl⟩
  rw [hR]
  have HR := Lib.hid (show partsG (n - 0) [] (b.drop 0) = R by rw [← hR, hl]; rfl)
  have HB := Lib.hid hb
  have HL := Lib.hid hl
  obtain ⟨R1, R2⟩ := R
  clear hb hR hl
  dsimp only
  go_enter Tryz.func56, Tryz.ntmps56
  go_wp2_with fail
  go_loopg [4, 5, 6, 7] (n + 1) (fun g ov iv _ _ wx => ∃ (i : Nat) (out : List UInt8), iv = .int .i64 i ∧ i ≤ n ∧ g = n + 1 - i ∧ Hid (OwnB wx w.heap.size ov out ∧ Keeps [] w wx ∧ partsG (n - i) out (b.drop i) = (R1, R2) ∧ out.length ≤ i))
  case atStart => exact ⟨0, [], rfl, by omega, by omega, Lib.hid ⟨World.ownsRow_nil _ _ _ _, Keeps.refl _ _, HR.out, by simp⟩⟩
  case round =>
    obtain ⟨i, out, rfl, hi, hg, HI⟩ := hrel
    subst hg
    rcases Nat.lt_or_ge i n with hlt | hge
    · have hltI : (i : Int) < (n : Int) := by omega
      have hi0 : (0 : Int) ≤ (i : Int) := by omega
      obtain ⟨g0, o0, rfl, hcell⟩ := HB.out.get (by omega)
      obtain ⟨x0, hx0⟩ : ∃ x, b[i]? = some x := ⟨_, List.getElem?_eq_getElem (by have := HL.out; omega)⟩
      have hst := parts_at b out i hx0
      have e0 : wr.cell? ⟨g0, o0 + i, none⟩ = some (.int .u8 (x0.toNat : Int)) := cell_keeps HI.out.2.1 (hcell i x0 hx0) (by simp)
      have hst2 : partsG (n - i) out (b.drop i) = partsG (b.length - i) out (b.drop i) := by rw [HL.out]
      have HS := Lib.hid ((hst2.symm.trans HI.out.2.2.1).symm.trans hst)
      clear hst hst2
      by_cases h22 : x0 = 22
      · have hxi : ((x0.toNat : Int) != 22) = false := by subst h22; rfl
        have HX0 := Lib.hid h22
        obtain ⟨J, hJ⟩ : ∃ J, i + 5 = J := ⟨_, rfl⟩
        have w5 : IntKind.i64.wrap ((i : Int) + 5) = (J : Int) := by rw [wrap_in] <;> omega
        by_cases h5 : n < J
        · have h5I : (n : Int) < (J : Int) := by omega
          have hres : (R1, R2) = (out, false) := by rw [HS.out, if_neg (by simp [h22]), if_pos (by have := HL.out; omega)]
          injection hres with hr1 hr2
          subst hr1 hr2
          have HF := Lib.hid (And.intro HI.out.1 HI.out.2.1)
          clear hcell hx0 h22 hJ h5 HS HI
          go_wp2_with fail
          go_ret2
          exact ⟨_, rfl, HF.out⟩
        · have h5I : ¬ (n : Int) < (J : Int) := by omega
          have hj5 : i + 5 ≤ n := by omega
          obtain ⟨x1, hx1⟩ : ∃ x, b[i + 1]? = some x := ⟨_, List.getElem?_eq_getElem (by have := HL.out; omega)⟩
          obtain ⟨x3, hx3⟩ : ∃ x, b[i + 3]? = some x := ⟨_, List.getElem?_eq_getElem (by have := HL.out; omega)⟩
          obtain ⟨x4, hx4⟩ : ∃ x, b[i + 4]? = some x := ⟨_, List.getElem?_eq_getElem (by have := HL.out; omega)⟩
          have hH := hdN_two hx3 hx4
          obtain ⟨H, hHH⟩ : ∃ H, hdN b i = H := ⟨_, rfl⟩
          have hst := HS.out
          rw [if_neg (by simp [h22]), if_neg (by have := HL.out; omega), hx1, hHH] at hst
          rw [hHH] at hH
          have HST := Lib.hid hst
          obtain ⟨J1, hJ1⟩ : ∃ J, i + 1 = J := ⟨_, rfl⟩
          obtain ⟨J3, hJ3⟩ : ∃ J, i + 3 = J := ⟨_, rfl⟩
          obtain ⟨J4, hJ4⟩ : ∃ J, i + 4 = J := ⟨_, rfl⟩
          obtain ⟨M3, hM3⟩ : ∃ M, 256 * x3.toNat = M := ⟨_, rfl⟩
          have l1 := x1.toNat_lt
          have l3 := x3.toNat_lt
          have l4 := x4.toNat_lt
          have e1 : wr.drew.cell? ⟨g0, o0 + J1, none⟩ = some (.int .u8 (x1.toNat : Int)) := cell_keeps HI.out.2.1.drew' (hcell J1 x1 (by rw [← hJ1]; exact hx1)) (by simp)
          have HC := Lib.hid (show wr.drew.cell? ⟨g0, o0 + J3, none⟩ = some (.int .u8 (x3.toNat : Int)) ∧ wr.drew.cell? ⟨g0, o0 + J4, none⟩ = some (.int .u8 (x4.toNat : Int)) from ⟨cell_keeps HI.out.2.1.drew' (hcell J3 x3 (by rw [← hJ3]; exact hx3)) (by simp), cell_keeps HI.out.2.1.drew' (hcell J4 x4 (by rw [← hJ4]; exact hx4)) (by simp)⟩)
          have HJ := Lib.hid (show i + 5 = J ∧ J ≤ n ∧ H ≤ 65535 from ⟨hJ, by omega, by omega⟩)
          have b1 : (0 : Int) ≤ (J1 : Int) := by omega
          have b2 : (J1 : Int) < (n : Int) := by omega
          have b3 : (0 : Int) ≤ (J3 : Int) := by omega
          have b4 : (J3 : Int) < (n : Int) := by omega
          have b5 : (0 : Int) ≤ (J4 : Int) := by omega
          have b6 : (J4 : Int) < (n : Int) := by omega
          have HFW := Lib.hid (show IntKind.i64.wrap ((i : Int) + 1) = (J1 : Int) ∧ IntKind.i64.wrap ((i : Int) + 3) = (J3 : Int) ∧ IntKind.i64.wrap ((i : Int) + 4) = (J4 : Int) ∧ IntKind.i64.wrap (256 * (x3.toNat : Int)) = (M3 : Int) ∧ IntKind.i64.wrap (x3.toNat : Int) = (x3.toNat : Int) ∧ IntKind.i64.wrap (x4.toNat : Int) = (x4.toNat : Int) ∧ IntKind.i64.wrap ((M3 : Int) + (x4.toNat : Int)) = (H : Int) by
            refine ⟨?_, ?_, ?_, ?_, ?_, ?_, ?_⟩ <;> (rw [wrap_in] <;> omega))
          have HO := Lib.hid (And.intro HI.out.1 HI.out.2.1)
          have HOL := Lib.hid (show out.length ≤ i ∧ i ≤ n ∧ n ≤ 100000 ∧ i < n from ⟨HI.out.2.2.2, hi, hn, hlt⟩)
          have HW5 := Lib.hid w5
          clear hcell hx0 hx1 hx3 hx4 hH hHH hst hJ1 hJ3 hJ4 hM3 l1 l3 l4 hJ h5 HS HI h22 w5
          by_cases h3 : x1 = 3
          · have hx3i : ((x1.toNat : Int) != 3) = false := by subst h3; rfl
            by_cases hlow : H < 1
            · have hlI : (H : Int) < 1 := by omega
              have hres : (R1, R2) = (out, true) := by rw [HST.out, if_pos (.inr (.inl hlow))]
              injection hres with hr1 hr2
              subst hr1 hr2
              clear h3 hlow HST
              obtain ⟨g1, g3, g4, g5, g6, g7, g8⟩ := HFW.out
              have g9 := HW5.out
              go_wp2_with fail
              go_region_held3 (fun W => W.cell? ⟨g0, o0 + J3, none⟩ = some (.int .u8 (x3.toNat : Int)) ∧ W.cell? ⟨g0, o0 + J4, none⟩ = some (.int .u8 (x4.toNat : Int))) (exact HC.out) (fail)
              go_wp2_with fail
              go_ret2
              exact ⟨_, rfl, HO.out.1.keep0 (Keeps.refl [] _).drew', HO.out.2.drew'⟩
            · have hlI : ¬ (H : Int) < 1 := by omega
              by_cases hhi : 16384 < H
              · have hhI : (16384 : Int) < (H : Int) := by omega
                have hres : (R1, R2) = (out, true) := by rw [HST.out, if_pos (.inr (.inr hhi))]
                injection hres with hr1 hr2
                subst hr1 hr2
                clear h3 hlow hhi HST
                obtain ⟨g1, g3, g4, g5, g6, g7, g8⟩ := HFW.out
                have g9 := HW5.out
                go_wp2_with fail
                go_region_held3 (fun W => W.cell? ⟨g0, o0 + J3, none⟩ = some (.int .u8 (x3.toNat : Int)) ∧ W.cell? ⟨g0, o0 + J4, none⟩ = some (.int .u8 (x4.toNat : Int))) (exact HC.out) (fail)
                go_wp2_with fail
                go_ret2
                exact ⟨_, rfl, HO.out.1.keep0 (Keeps.refl [] _).drew', HO.out.2.drew'⟩
              · have hhI : ¬ (16384 : Int) < (H : Int) := by omega
                have HST2 := Lib.hid (show (R1, R2) = partsG (b.length - min (i + 5 + H) b.length) (out ++ (b.drop (i + 5)).take H) (b.drop (min (i + 5 + H) b.length)) by
                  rw [HST.out, if_neg (by rintro (h | h | h); exact h (by rw [h3]); omega; omega)])
                have HH := Lib.hid (show 1 ≤ H ∧ H ≤ 16384 by omega)
                clear h3 hlow hhi HST
                obtain ⟨g1, g3, g4, g5, g6, g7, g8⟩ := HFW.out
                have g9 := HW5.out
                go_wp2_with fail
                go_region_held3 (fun W => W.cell? ⟨g0, o0 + J3, none⟩ = some (.int .u8 (x3.toNat : Int)) ∧ W.cell? ⟨g0, o0 + J4, none⟩ = some (.int .u8 (x4.toNat : Int))) (exact HC.out) (fail)
                go_wp2_with fail
                clear g1 g3 g4 g5 g6 g7 g8 g9 hlI hhI e1 b1 b2 b3 b4 b5 b6
                go_loopg [4, 5, 7] (H + 1) (fun g ov jv kv wx => ∃ (k : Nat), kv = .int .i64 k ∧ jv = .int .i64 ((J + k : Nat) : Int) ∧ k ≤ H ∧ J + k ≤ n ∧ g = H + 1 - k ∧ Hid (OwnB wx w.heap.size ov (out ++ (b.drop J).take k) ∧ Keeps [] w wx))
                case atStart => exact ⟨0, rfl, rfl, by omega, by have := HJ.out; omega, by omega, Lib.hid ⟨by rw [List.take_zero, List.append_nil]; exact HO.out.1.keep0 (Keeps.refl [] _).drew', HO.out.2.drew'⟩⟩
                case round =>
                  obtain ⟨k, rfl, rfl, hk, hkn, hg, HK⟩ := hrel
                  subst hg
                  obtain ⟨P, hP⟩ : ∃ P, J + k = P := ⟨_, rfl⟩
                  rw [hP] at hkn ⊢
                  have HPK := Lib.hid (show J + k = P ∧ P ≤ n ∧ k ≤ H from ⟨hP, hkn, hk⟩)
                  rcases Nat.lt_or_ge k H with hkH | hkH
                  · have hkI : (k : Int) < (H : Int) := by omega
                    rcases Nat.lt_or_ge P n with hPn | hPn
                    · have hPI : (P : Int) < (n : Int) := by omega
                      have hP0 : (0 : Int) ≤ (P : Int) := by omega
                      obtain ⟨x, hx⟩ : ∃ x, b[P]? = some x := ⟨_, List.getElem?_eq_getElem (by have := HL.out; omega)⟩
                      obtain ⟨g1, o1, hgo, hcell⟩ := HB.out.get (by omega)
                      injection hgo with hgo
                      injection hgo with hg1 ho1
                      subst hg1 ho1
                      have cx : wr.cell? ⟨g0, o0 + P, none⟩ = some (.int .u8 (x.toNat : Int)) := cell_keeps HK.out.2 (hcell P x hx) (by simp)
                      obtain ⟨P1, hP1⟩ : ∃ P1, P + 1 = P1 := ⟨_, rfl⟩
                      have HTK := Lib.hid (show (out ++ (b.drop J).take k) ++ [x] = out ++ (b.drop J).take (k + 1) by
                        rw [List.append_assoc, List.take_add_one]
                        congr 2
                        rw [List.getElem?_drop, hP, hx]
                        rfl)
                      have HN := Lib.hid (show (out ++ (b.drop J).take k).length + [x].length ≤ 1000000 ∧ H + 1 - (k + 1) < H + 1 - k ∧ k + 1 ≤ H ∧ J + (k + 1) ≤ n ∧ J + (k + 1) = P1 by
                        have h1 := HOL.out
                        refine ⟨?_, by omega, by omega, by omega, by omega⟩
                        rw [List.length_append, List.length_take]
                        simp only [List.length_cons, List.length_nil]
                        omega)
                      have f1 : IntKind.i64.wrap ((P : Int) + 1) = (P1 : Int) := by rw [wrap_in] <;> omega
                      clear hcell hx hP1 hP
                      go_wp2_with (at_builtin; refine app_B rfl _ _ w w.heap.size (HK.out.2.alloc' _) (Nat.le_refl _) (HK.out.2.alloc' _).size rfl _ (out ++ (b.drop J).take k) rfl (HK.out.1.keep0 (Keeps.alloc [] _ _)) _ [x] rfl (byte_one _ x _) HN.out.1 ?_; intro v6 w6 ho6 hk6)
                      rw [HTK.out] at ho6
                      have HEND := Lib.hid (And.intro ho6 hk6)
                      clear ho6 hk6
                      go_roundg (H + 1 - (k + 1))
                      case measure => exact HN.out.2.1
                      case rel => exact ⟨k + 1, by go_num, by rw [HN.out.2.2.2.2], HN.out.2.2.1, HN.out.2.2.2.1, rfl, HEND⟩
                    · have hPI : ¬ (P : Int) < (n : Int) := by omega
                      have HEND := Lib.hid (show OwnB wr w.heap.size u4 (out ++ (b.drop J).take k) ∧ Keeps [] w wr ∧ partsG (n - P) (out ++ (b.drop J).take k) (b.drop P) = (R1, R2) ∧ (out ++ (b.drop J).take k).length ≤ P by
                        refine ⟨HK.out.1, HK.out.2, ?_, ?_⟩
                        · rw [HST2.out, HJ.out.1]
                          have hbl := HL.out
                          have e1 : min (J + H) b.length = P := by omega
                          have e2 : (b.drop J).take H = (b.drop J).take k := by
                            rw [List.take_of_length_le (by rw [List.length_drop]; omega), List.take_of_length_le (by rw [List.length_drop]; omega)]
                          rw [e1, e2, ← hbl]
                        · have h1 := HOL.out
                          have h2 := HJ.out
                          rw [List.length_append, List.length_take]
                          omega)
                      clear hk hkn hP HST2
                      go_wp2_with fail
                      go_roundg (n + 1 - P)
                      case measure => have h1 := HJ.out; have h2 := HPK.out; have h3 := HOL.out; omega
                      case rel => exact ⟨P, _, rfl, by have h2 := HPK.out; omega, rfl, HEND⟩
                  · have hkI : ¬ (k : Int) < (H : Int) := by omega
                    have HEND := Lib.hid (show OwnB wr w.heap.size u4 (out ++ (b.drop J).take k) ∧ Keeps [] w wr ∧ partsG (n - P) (out ++ (b.drop J).take k) (b.drop P) = (R1, R2) ∧ (out ++ (b.drop J).take k).length ≤ P by
                      refine ⟨HK.out.1, HK.out.2, ?_, ?_⟩
                      · rw [HST2.out, HJ.out.1]
                        have hbl := HL.out
                        have e1 : min (J + H) b.length = P := by omega
                        have e2 : (b.drop J).take H = (b.drop J).take k := by
                          rw [show H = k by omega]
                        rw [e1, e2, ← hbl]
                      · have h1 := HOL.out
                        have h2 := HJ.out
                        rw [List.length_append, List.length_take]
                        omega)
                    clear hk hkn hP HST2
                    go_wp2_with fail
                    go_roundg (n + 1 - P)
                    case measure => have h1 := HJ.out; have h2 := HPK.out; have h3 := HOL.out; omega
                    case rel => exact ⟨P, _, rfl, by have h2 := HPK.out; omega, rfl, HEND⟩
          · have hx3i : ((x1.toNat : Int) != 3) = true := by
              simp only [bne_iff_ne, ne_eq]
              intro h
              exact h3 (UInt8.toNat_inj.1 (show x1.toNat = (3 : UInt8).toNat by have : (3 : UInt8).toNat = 3 := rfl; omega))
            have hres : (R1, R2) = (out, true) := by rw [HST.out, if_pos (.inl (by intro h; injection h with h; exact h3 h))]
            injection hres with hr1 hr2
            subst hr1 hr2
            clear h3 HST
            obtain ⟨g1, g3, g4, g5, g6, g7, g8⟩ := HFW.out
            have g9 := HW5.out
            go_wp2_with fail
            go_region_held3 (fun W => W.cell? ⟨g0, o0 + J3, none⟩ = some (.int .u8 (x3.toNat : Int)) ∧ W.cell? ⟨g0, o0 + J4, none⟩ = some (.int .u8 (x4.toNat : Int))) (exact HC.out) (fail)
            go_wp2_with fail
            go_ret2
            exact ⟨_, rfl, HO.out.1.keep0 (Keeps.refl [] _).drew', HO.out.2.drew'⟩
      · have hxi : ((x0.toNat : Int) != 22) = true := by
          simp only [bne_iff_ne, ne_eq]
          intro h
          exact h22 (UInt8.toNat_inj.1 (show x0.toNat = (22 : UInt8).toNat by have : (22 : UInt8).toNat = 22 := rfl; omega))
        have hres : (R1, R2) = (out, true) := by rw [HS.out, if_pos h22]
        injection hres with hr1 hr2
        subst hr1 hr2
        have HF := Lib.hid (And.intro HI.out.1 HI.out.2.1)
        clear hcell hx0 h22 HS HI
        go_wp2_with fail
        go_ret2
        exact ⟨_, rfl, HF.out⟩
    · have hie : i = n := by omega
      subst hie
      have hltI : ¬ (i : Int) < (i : Int) := by omega
      have hres : (R1, R2) = (out, false) := by
        rw [← HI.out.2.2.1, Nat.sub_self]; rfl
      injection hres with hr1 hr2
      subst hr1 hr2
      have HF := Lib.hid (And.intro HI.out.1 HI.out.2.1)
      clear HI
      go_wp2_with fail
      go_ret2
      exact ⟨_, rfl, HF.out⟩
theorem partsG_len : ∀ (k : Nat) (out b : List UInt8), (partsG k out b).1.length ≤ out.length + b.length
  | 0, out, b => by show out.length ≤ _; omega
  | k + 1, out, b => by
    cases b with
    | nil => show out.length ≤ _; omega
    | cons c t =>
      obtain ⟨N, hN⟩ : ∃ N, beN (((c :: t).drop 3).take 2) = N := ⟨_, rfl⟩
      have h0 : partsG (k + 1) out (c :: t) = if c ≠ 22 then (out, true) else if (c :: t).length < 5 then (out, false)
          else if (c :: t)[1]? ≠ some 3 ∨ N < 1 ∨ 16384 < N then (out, true)
          else partsG k (out ++ ((c :: t).drop 5).take N) (((c :: t).drop 5).drop N) := by rw [← hN]; rfl
      rw [h0]
      split
      · show out.length ≤ _; omega
      · split
        · show out.length ≤ _; omega
        · split
          · show out.length ≤ _; omega
          · refine Nat.le_trans (partsG_len k _ _) ?_
            simp only [List.length_append, List.length_take, List.length_drop]
            omega
set_option maxRecDepth 100000 in
set_option maxHeartbeats 4000000 in
/-- THE DOCUMENT'S LOOK TELLS WHAT THE PLAIN LAW TELLS -/
theorem rlook_any (w : World) (A : Option Addr) (n c : Nat) (b : List UInt8) (hb : BytesV w (.slice A n c) b) (hn : n ≤ 100000) :
    Calls Tryz.prog 27 #[.slice A n c] w fun e w' => e = .returned (.tuple #[.int .i64 (lookP b).1, .string (lookP b).2]) ∧ Keeps [] w w' := by
  obtain ⟨res, hres⟩ : ∃ r, lookP b = r := ⟨_, rfl⟩
  rw [hres]
  have HLR := Lib.hid ((look_ref b).trans hres)
  have HP := Lib.hid (rparts_any w A n c b hb hn)
  have hlen := partsG_len b.length [] b
  have hl := hb.form.1
  have HLEN := Lib.hid (show (partsL b).1.length ≤ 100000 by unfold partsL; simp at hlen; omega)
  obtain ⟨⟨bs, br⟩, hR⟩ : ∃ R, partsL b = R := ⟨_, rfl⟩
  rw [hR] at HLR HP HLEN
  dsimp only at HLR HP HLEN
  obtain ⟨rk, rn⟩ := res
  clear hb hn hres hlen hl hR
  dsimp only
  go_enter Tryz.func27, Tryz.ntmps27
  go_wp2_with fail
  refine HP.out.mono ?_
  rintro e w1 ⟨v1, rfl, ho1, k1⟩
  obtain ⟨A1, c1, rfl⟩ := ho1.form
  obtain ⟨p, hp⟩ : ∃ p, w1.heap.size = p := ⟨_, rfl⟩
  obtain ⟨m, hm⟩ : ∃ m, bs.length = m := ⟨_, rfl⟩
  have hb1 := ho1.bytes
  rw [hm] at hb1 ⊢
  obtain ⟨w2, hw2⟩ : ∃ w2, w1.alloc (.cells #[.slice A1 m c1, .int .i64 0, .bool false, .bool false, .string ByteArray.empty, .bool false] 98) = w2 := ⟨_, rfl⟩
  have hw2' : w1.alloc (.cells #[.slice A1 m c1, .int .i64 0, .bool false, .bool false, .string ⟨#[]⟩, .bool false] 98) = w2 := hw2
  have k2 : Keeps [] w1 w2 := by rw [← hw2]; exact Keeps.alloc [] w1 _
  have hb2 : w2.heap[p]? = some (.cells #[.slice A1 m c1, .int .i64 0, .bool false, .bool false, .string ByteArray.empty, .bool false] 98 (0, 0)) := by rw [← hw2, ← hp]; exact (MapKept.heap_alloc w1 _).1
  have hrk : RkAt bs w2 p A1 m c1 rs0 := ⟨hb2, hb1.keep0 k2, by rw [← hm]; exact HLEN.out, Nat.zero_le _⟩
  have HH := Lib.hid (rhello_any w2 hrk)
  have HPW := Lib.hid (show w.heap.size ≤ p by have := k1.size; omega)
  have K2 := Lib.hid (k1.trans k2)
  clear k1 k2 hb1 ho1 hb2 hrk HP hm
  go_wp2_with fail
  refine HH.out.mono ?_
  rintro e w3 ⟨rfl, h3, k3⟩
  obtain ⟨s, hs⟩ : ∃ s, helloR bs = s := ⟨_, rfl⟩
  rw [hs] at h3 HLR
  have K3 := Lib.hid (show Keeps [] w w3 from ((K2.out.mono (T := [p]) (by simp)).trans k3).far (by simp; exact HPW.out))
  have x3 : w3.cell? ⟨p, 3, none⟩ = some (.bool s.wr) := cell_of_block h3.at_ 3
  have x2 : w3.cell? ⟨p, 2, none⟩ = some (.bool s.sh) := cell_of_block h3.at_ 2
  have x5 : w3.cell? ⟨p, 5, none⟩ = some (.bool s.nd) := cell_of_block h3.at_ 5
  have HX4 := Lib.hid (show w3.drew.cell? ⟨p, 4, none⟩ = some (.string s.name) from cell_of_block h3.at_ 4)
  obtain ⟨i0, sh, wr, nm, nd⟩ := s
  dsimp only at x2 x3 x5 HX4
  clear h3 k3 HH hs hw2 hp
  cases wr with
  | true =>
    have hr : (rk, rn) = (3, ByteArray.empty) := by rw [← HLR.out]; rfl
    injection hr with r1 r2
    subst r1 r2
    go_wp2_with fail
    go_ret2
    exact ⟨rfl, K3.out⟩
  | false =>
    cases sh with
    | false =>
      cases nd with
      | true =>
        have hr : (rk, rn) = (1, nm) := by rw [← HLR.out]; rfl
        injection hr with r1 r2
        subst r1 r2
        go_wp2_with fail
        go_region_held3 (fun W => W.cell? ⟨p, 4, none⟩ = some (.string rn)) (exact HX4.out) (fail)
        go_wp2_with fail
        go_ret2
        exact ⟨rfl, K3.out.drew'⟩
      | false =>
        have hr : (rk, rn) = (2, ByteArray.empty) := by rw [← HLR.out]; rfl
        injection hr with r1 r2
        subst r1 r2
        go_wp2_with fail
        go_ret2
        exact ⟨rfl, K3.out⟩
    | true =>
      cases br with
      | true =>
        have hr : (rk, rn) = (3, ByteArray.empty) := by rw [← HLR.out]; rfl
        injection hr with r1 r2
        subst r1 r2
        go_wp2_with fail
        go_ret2
        exact ⟨rfl, K3.out⟩
      | false =>
        have hr : (rk, rn) = (0, ByteArray.empty) := by rw [← HLR.out]; rfl
        injection hr with r1 r2
        subst r1 r2
        go_wp2_with fail
        go_ret2
        exact ⟨rfl, K3.out⟩
end Go.Proofs.YtpoheemjdieogaaGreatDoor
