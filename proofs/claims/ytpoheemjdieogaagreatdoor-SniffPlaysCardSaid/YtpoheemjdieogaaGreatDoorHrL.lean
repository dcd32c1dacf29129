/-
  The walk of the document's Look of HTTP: it tells what lookR tells. Condition: at most 100,000 bytes. (Printed by tools/gen_hrl.py.)
-/
import Derived.Test.YtpoheemjdieogaaGreatDoorHrG
namespace Go.Proofs.YtpoheemjdieogaaGreatDoor
open Go.RowKit Go.Lib
set_option linter.unusedVariables false
set_option linter.unusedSimpArgs false

def lastL (fst : Bool) (H : List UInt8) (whole : Bool) : Int × List UInt8 :=
  if (if fst = true then (firstR H whole).1 else (fieldR H whole).1) = false then (3, []) else (0, [])
def stepL (fst : Bool) (H : List UInt8) (next : List UInt8 → Int × List UInt8) : List UInt8 → Int × List UInt8
  | [] => lastL fst H false
  | [_] => if fst = false ∧ H = [] then (0, []) else lastL fst H true
  | _ :: x :: u => if x ≠ 10 then (3, []) else if fst = true then (if (firstR H true).1 = false then (3, []) else if (firstR H true).2 ≠ [] then (1, (firstR H true).2) else next u)
    else if H = [] then (2, []) else if (fieldR H true).1 = false then (3, []) else if (fieldR H true).2.1 = true then (1, (fieldR H true).2.2) else next u
def lookLR : Nat → Bool → List UInt8 → Int × List UInt8
  | 0, _, _ => (0, [])
  | f + 1, fst, t => stepL fst (preL t 13) (lookLR f false) (t.drop (preL t 13).length)
def lookR (b : List UInt8) : Int × List UInt8 := lookLR (b.length + 1) true b
set_option maxRecDepth 1000000 in
set_option maxHeartbeats 8000000 in
theorem rhlook_any (w : World) (A : Option Addr) (n c : Nat) (b : List UInt8) (hb : BytesV w (.slice A n c) b) (hn : n ≤ 100000) :
    Calls Tryz.prog 28 #[.slice A n c] w fun e w' => e = .returned (.tuple #[.int .i64 (lookR b).1, .string (bs (lookR b).2)]) ∧ Keeps [] w w' := by
  obtain ⟨⟨r1, r2⟩, hres⟩ : ∃ r, lookR b = r := ⟨_, rfl⟩
  rw [hres]
  dsimp only
  have HRES := Lib.hid (show lookLR (b.length + 1) true b = (r1, r2) from hres)
  have hl := hb.form.1
  have HBL := Lib.hid (show b.length ≤ 100000 by omega)
  have hcv : (convert 22 9 (.slice A n c)).run Tryz.prog w = .ok (.string (bs b)) w := hb.str0 22 9 5 Tryz.underlying22 Tryz.underlying5 Tryz.underlying9
  clear hb hn hres hl
  go_enter Tryz.func28, Tryz.ntmps28
  go_wp2_with fail
  clear hcv
  go_loopg [4, 5] (b.length + 1) (fun g sv lv wx => ∃ (f k : Nat) (t : List UInt8), g = f + 1 ∧ sv = .string (bs t) ∧ lv = .int .i64 k ∧ Keeps [] w wx ∧ k + t.length ≤ 100000 ∧ t.length ≤ f ∧ Hid (lookLR (f + 1) (decide (k = 0)) t = (r1, r2)))
  case atStart => exact ⟨b.length, 0, b, rfl, rfl, rfl, Keeps.refl _ _, by have := HBL.out; omega, by omega, HRES⟩
  case round =>
    obtain ⟨f, k, t, hg, rfl, rfl, hk, hkt, htf, HL⟩ := hrel
    subst hg
    have htf2 : t.length ≤ f := htf
    · clear htf2
      have HK := Lib.hid hk
      have HTF := Lib.hid htf
      have HKT := Lib.hid hkt
      have htz : (bs t).size = t.length := rfl
      have htl : t.length ≤ 100000 := by omega
      have HU := Lib.hid (runtil_any wr t 13 (by omega))
      rw [show ((13 : UInt8).toNat : Int) = 13 from rfl, untilR_pre] at HU
      have hle := preL_le t 13
      have htk := preL_take t 13
      have hL : stepL (decide (k = 0)) (preL t 13) (lookLR f false) (t.drop (preL t 13).length) = (r1, r2) := HL.out
      obtain ⟨H, hH⟩ : ∃ H, preL t 13 = H := ⟨_, rfl⟩
      rw [hH] at HU hle htk hL
      obtain ⟨D, hD⟩ : ∃ D, t.drop H.length = D := ⟨_, rfl⟩
      rw [hD] at hL
      obtain ⟨K, hK⟩ : ∃ K, H.length = K := ⟨_, rfl⟩
      rw [hK] at HU hle htk hD
      have hDl : D.length = t.length - K := by rw [← hD, List.length_drop]
      have hHz : (bs H).size = H.length := rfl
      have hDz : (bs D).size = D.length := rfl
      have hHb : H.length ≤ 1000000 := by omega
      have heH : (bs t).extract 0 K = bs H := by rw [bs_ext, List.drop_zero, Nat.sub_zero, htk]
      have heD : (bs t).extract K t.length = bs D := by rw [bs_ext, ← hD, List.take_of_length_le (by rw [List.length_drop]; omega)]
      have hHe := bs_isE H
      have a1 : (0 : Int) ≤ (K : Int) := by omega
      have a2 : (K : Int) ≤ (t.length : Int) := by omega
      have a3 : ¬ (K : Int) < 0 := by omega
      clear hk hkt htf hH HL
      obtain hDD | ⟨d, hDD⟩ | ⟨d, x, u, hDD⟩ : D = [] ∨ (∃ d, D = [d]) ∨ (∃ d x u, D = d :: x :: u) := by
        cases D with
        | nil => exact Or.inl rfl
        | cons d D => cases D with
          | nil => exact Or.inr (Or.inl ⟨d, rfl⟩)
          | cons x u => exact Or.inr (Or.inr ⟨d, x, u, rfl⟩)
      · have hKt : K = t.length := by rw [hDD] at hDl; simp at hDl; omega
        rw [if_neg (by omega)] at HU
        have m1 : (-1 : Int) < 0 := by decide
        have hd2 : ¬ (2 : Int) ≤ (D.length : Int) := by rw [hDD]; simp
        have hd1 : ¬ (1 : Int) ≤ (D.length : Int) := by rw [hDD]; simp
        rw [hKt] at heH heD
        have hHt : H = t := by rw [← htk, hKt, List.take_length]
        clear a1 a2
        have hLL : lastL (decide (k = 0)) H false = (r1, r2) := by rw [hDD] at hL; exact hL
        clear hle htk hD hDl hL a3 hKt hK hDD htz hHe
        subst hHt
        unfold lastL at hLL
        by_cases hk0 : k = 0
        · rw [decide_eq_true hk0] at hLL
          have hkq : ((k : Int) == 0) = true := by rw [hk0]; rfl
          have hL := hLL
          clear hLL hk0
          have HC := Lib.hid (rfirst_any wr H false hHb)
          have hL : (if (firstR H false).1 = false then ((3 : Int), ([] : List UInt8)) else (0, [])) = (r1, r2) := hL
          obtain ⟨⟨c1, c2⟩, hc⟩ : ∃ r, firstR H false = r := ⟨_, rfl⟩
          rw [hc] at HC hL
          dsimp only at HC hL
          clear hc
          cases c1 with
          | false =>
            replace hL : ((3 : Int), ([] : List UInt8)) = (r1, r2) := hL

            injection hL with r1e r2e
            subst r1e r2e

            go_wp2_with fail
            refine HU.out.mono ?_
            rintro e w1 ⟨rfl, h1⟩
            obtain rfl := h1.symm
            clear h1 HU

            go_wp2_with fail
            refine HC.out.mono ?_
            rintro e w2 ⟨rfl, k2⟩
            have K2 := Lib.hid (HK.out.trans k2)
            clear k2 HC
            go_wp2_with fail
            go_ret2
            exact ⟨rfl, K2.out⟩
          | true =>
            replace hL : ((0 : Int), ([] : List UInt8)) = (r1, r2) := hL

            injection hL with r1e r2e
            subst r1e r2e

            go_wp2_with fail
            refine HU.out.mono ?_
            rintro e w1 ⟨rfl, h1⟩
            obtain rfl := h1.symm
            clear h1 HU

            go_wp2_with fail
            refine HC.out.mono ?_
            rintro e w2 ⟨rfl, k2⟩
            have K2 := Lib.hid (HK.out.trans k2)
            clear k2 HC
            go_wp2_with fail
            go_ret2
            exact ⟨rfl, K2.out⟩
        · rw [decide_eq_false hk0] at hLL
          have hkq : ((k : Int) == 0) = false := by rw [beq_eq_false_iff_ne]; omega
          have hL := hLL
          clear hLL hk0
          cases hHe2 : (bs H).toList.isEmpty with
          | true =>
            have HC := Lib.hid (rfield_any wr H false hHb)
            have hL : (if (fieldR H false).1 = false then ((3 : Int), ([] : List UInt8)) else (0, [])) = (r1, r2) := hL
            obtain ⟨⟨c1, c2, c3⟩, hc⟩ : ∃ r, fieldR H false = r := ⟨_, rfl⟩
            rw [hc] at HC hL
            dsimp only at HC hL
            clear hc
            cases c1 with
            | false =>
              replace hL : ((3 : Int), ([] : List UInt8)) = (r1, r2) := hL

              injection hL with r1e r2e
              subst r1e r2e

              go_wp2_with fail
              refine HU.out.mono ?_
              rintro e w1 ⟨rfl, h1⟩
              obtain rfl := h1.symm
              clear h1 HU

              go_wp2_with fail
              refine HC.out.mono ?_
              rintro e w2 ⟨rfl, k2⟩
              have K2 := Lib.hid (HK.out.trans k2)
              clear k2 HC
              go_wp2_with fail
              go_ret2
              exact ⟨rfl, K2.out⟩
            | true =>
              replace hL : ((0 : Int), ([] : List UInt8)) = (r1, r2) := hL

              injection hL with r1e r2e
              subst r1e r2e

              go_wp2_with fail
              refine HU.out.mono ?_
              rintro e w1 ⟨rfl, h1⟩
              obtain rfl := h1.symm
              clear h1 HU

              go_wp2_with fail
              refine HC.out.mono ?_
              rintro e w2 ⟨rfl, k2⟩
              have K2 := Lib.hid (HK.out.trans k2)
              clear k2 HC
              go_wp2_with fail
              go_ret2
              exact ⟨rfl, K2.out⟩
          | false =>
            have HC := Lib.hid (rfield_any wr H false hHb)
            have hL : (if (fieldR H false).1 = false then ((3 : Int), ([] : List UInt8)) else (0, [])) = (r1, r2) := hL
            obtain ⟨⟨c1, c2, c3⟩, hc⟩ : ∃ r, fieldR H false = r := ⟨_, rfl⟩
            rw [hc] at HC hL
            dsimp only at HC hL
            clear hc
            cases c1 with
            | false =>
              replace hL : ((3 : Int), ([] : List UInt8)) = (r1, r2) := hL

              injection hL with r1e r2e
              subst r1e r2e

              go_wp2_with fail
              refine HU.out.mono ?_
              rintro e w1 ⟨rfl, h1⟩
              obtain rfl := h1.symm
              clear h1 HU

              go_wp2_with fail
              refine HC.out.mono ?_
              rintro e w2 ⟨rfl, k2⟩
              have K2 := Lib.hid (HK.out.trans k2)
              clear k2 HC
              go_wp2_with fail
              go_ret2
              exact ⟨rfl, K2.out⟩
            | true =>
              replace hL : ((0 : Int), ([] : List UInt8)) = (r1, r2) := hL

              injection hL with r1e r2e
              subst r1e r2e

              go_wp2_with fail
              refine HU.out.mono ?_
              rintro e w1 ⟨rfl, h1⟩
              obtain rfl := h1.symm
              clear h1 HU

              go_wp2_with fail
              refine HC.out.mono ?_
              rintro e w2 ⟨rfl, k2⟩
              have K2 := Lib.hid (HK.out.trans k2)
              clear k2 HC
              go_wp2_with fail
              go_ret2
              exact ⟨rfl, K2.out⟩
      · have hKt : K < t.length := by rw [hDD] at hDl; simp at hDl; omega
        rw [if_pos hKt] at HU
        have hd2 : ¬ (2 : Int) ≤ (D.length : Int) := by rw [hDD]; simp
        have hd1 : (1 : Int) ≤ (D.length : Int) := by rw [hDD]; simp
        have hLL : (if decide (k = 0) = false ∧ H = [] then ((0 : Int), ([] : List UInt8)) else lastL (decide (k = 0)) H true) = (r1, r2) := by rw [hDD] at hL; exact hL
        clear hle htk hD hDl hL hKt hK hDD
        unfold lastL at hLL
        by_cases hk0 : k = 0
        · rw [if_neg (by simp [hk0]), decide_eq_true hk0] at hLL
          have hkq : ((k : Int) == 0) = true := by rw [hk0]; rfl
          have hL := hLL
          clear hLL hk0
          have HC := Lib.hid (rfirst_any wr H true hHb)
          have hL : (if (firstR H true).1 = false then ((3 : Int), ([] : List UInt8)) else (0, [])) = (r1, r2) := hL
          obtain ⟨⟨c1, c2⟩, hc⟩ : ∃ r, firstR H true = r := ⟨_, rfl⟩
          rw [hc] at HC hL
          dsimp only at HC hL
          clear hc
          cases c1 with
          | false =>
            replace hL : ((3 : Int), ([] : List UInt8)) = (r1, r2) := hL

            injection hL with r1e r2e
            subst r1e r2e

            go_wp2_with fail
            refine HU.out.mono ?_
            rintro e w1 ⟨rfl, h1⟩
            obtain rfl := h1.symm
            clear h1 HU

            go_wp2_with fail
            refine HC.out.mono ?_
            rintro e w2 ⟨rfl, k2⟩
            have K2 := Lib.hid (HK.out.trans k2)
            clear k2 HC
            go_wp2_with fail
            go_ret2
            exact ⟨rfl, K2.out⟩
          | true =>
            replace hL : ((0 : Int), ([] : List UInt8)) = (r1, r2) := hL

            injection hL with r1e r2e
            subst r1e r2e

            go_wp2_with fail
            refine HU.out.mono ?_
            rintro e w1 ⟨rfl, h1⟩
            obtain rfl := h1.symm
            clear h1 HU

            go_wp2_with fail
            refine HC.out.mono ?_
            rintro e w2 ⟨rfl, k2⟩
            have K2 := Lib.hid (HK.out.trans k2)
            clear k2 HC
            go_wp2_with fail
            go_ret2
            exact ⟨rfl, K2.out⟩
        · have hkq : ((k : Int) == 0) = false := by rw [beq_eq_false_iff_ne]; omega
          by_cases hH0 : H = []
          · rw [if_pos ⟨by simpa using hk0, hH0⟩] at hLL
            have hHe2 : (bs H).toList.isEmpty = true := by rw [hHe, hH0]; rfl
            injection hLL with r1e r2e
            subst r1e r2e
            clear hk0 hH0 hHe
            go_wp2_with fail
            refine HU.out.mono ?_
            rintro e w1 ⟨rfl, h1⟩
            obtain rfl := h1.symm
            clear h1 HU
            go_wp2_with fail
            go_ret2
            exact ⟨rfl, HK.out⟩
          · rw [if_neg (fun h => hH0 h.2), decide_eq_false hk0] at hLL
            have hHe2 : (bs H).toList.isEmpty = false := by rw [hHe]; simpa using hH0
            have hL := hLL
            clear hLL hk0 hH0 hHe
            have HC := Lib.hid (rfield_any wr H true hHb)
            have hL : (if (fieldR H true).1 = false then ((3 : Int), ([] : List UInt8)) else (0, [])) = (r1, r2) := hL
            obtain ⟨⟨c1, c2, c3⟩, hc⟩ : ∃ r, fieldR H true = r := ⟨_, rfl⟩
            rw [hc] at HC hL
            dsimp only at HC hL
            clear hc
            cases c1 with
            | false =>
              replace hL : ((3 : Int), ([] : List UInt8)) = (r1, r2) := hL

              injection hL with r1e r2e
              subst r1e r2e

              go_wp2_with fail
              refine HU.out.mono ?_
              rintro e w1 ⟨rfl, h1⟩
              obtain rfl := h1.symm
              clear h1 HU

              go_wp2_with fail
              refine HC.out.mono ?_
              rintro e w2 ⟨rfl, k2⟩
              have K2 := Lib.hid (HK.out.trans k2)
              clear k2 HC
              go_wp2_with fail
              go_ret2
              exact ⟨rfl, K2.out⟩
            | true =>
              replace hL : ((0 : Int), ([] : List UInt8)) = (r1, r2) := hL

              injection hL with r1e r2e
              subst r1e r2e

              go_wp2_with fail
              refine HU.out.mono ?_
              rintro e w1 ⟨rfl, h1⟩
              obtain rfl := h1.symm
              clear h1 HU

              go_wp2_with fail
              refine HC.out.mono ?_
              rintro e w2 ⟨rfl, k2⟩
              have K2 := Lib.hid (HK.out.trans k2)
              clear k2 HC
              go_wp2_with fail
              go_ret2
              exact ⟨rfl, K2.out⟩
      · have hKt : K < t.length := by rw [hDD] at hDl; simp at hDl; omega
        rw [if_pos hKt] at HU
        have hd2 : (2 : Int) ≤ (D.length : Int) := by rw [hDD]; simp; omega
        have hd1 : (1 : Int) ≤ (D.length : Int) := by omega
        have hlt3 : 1 < (bs D).size := by rw [bs_size, hDD]; simp
        have hg2' : ∀ h, (bs D)[1]'h = x := by rw [hDD]; exact fun h => bs_mid [d] u x h
        have hg2 := hg2' hlt3
        have heu : (bs D).extract 2 D.length = bs u := by rw [bs_ext, hDD]; simp
        have HUL := Lib.hid (show u.length + 2 ≤ t.length by rw [hDD] at hDl; simp at hDl; omega)
        have hkb : k ≤ 1000000 := by have := HKT.out; omega
        have hLL : stepL (decide (k = 0)) H (lookLR f false) (d :: x :: u) = (r1, r2) := by rw [hDD] at hL; exact hL
        have hLL : (if x ≠ 10 then ((3 : Int), ([] : List UInt8)) else if decide (k = 0) = true then (if (firstR H true).1 = false then (3, []) else if (firstR H true).2 ≠ [] then (1, (firstR H true).2) else lookLR f false u)
            else if H = [] then (2, []) else if (fieldR H true).1 = false then (3, []) else if (fieldR H true).2.1 = true then (1, (fieldR H true).2.2) else lookLR f false u) = (r1, r2) := hLL
        clear hle htk hD hDl hL hKt hK hDD hg2'
        by_cases hx : x.toNat = 10
        · have hx10 : x = 10 := UInt8.toNat.inj hx
          have hxq := nat_eq hx
          rw [if_neg (by simp [hx10])] at hLL
          clear hx hx10
          by_cases hk0 : k = 0
          · rw [if_pos (by simpa using hk0)] at hLL
            have hkq : ((k : Int) == 0) = true := by rw [hk0]; rfl
            have hL := hLL
            clear hLL hk0
            have HC := Lib.hid (rfirst_any wr H true hHb)
            replace hL : (if (firstR H true).1 = false then ((3 : Int), ([] : List UInt8)) else if (firstR H true).2 ≠ [] then (1, (firstR H true).2) else lookLR f false u) = (r1, r2) := hL
            obtain ⟨⟨c1, c2⟩, hc⟩ : ∃ r, firstR H true = r := ⟨_, rfl⟩
            rw [hc] at HC hL
            dsimp only at HC hL
            clear hc
            cases c1 with
            | false =>
              rw [if_pos rfl] at hL

              injection hL with r1e r2e
              subst r1e r2e

              go_wp2_with fail
              refine HU.out.mono ?_
              rintro e w1 ⟨rfl, h1⟩
              obtain rfl := h1.symm
              clear h1 HU

              go_wp2_with fail
              refine HC.out.mono ?_
              rintro e w2 ⟨rfl, k2⟩
              have K2 := Lib.hid (HK.out.trans k2)
              clear k2 HC

              go_wp2_with fail
              go_ret2
              exact ⟨rfl, K2.out⟩
            | true =>
              by_cases hn : c2 ≠ []
              · rw [if_neg (by simp), if_pos hn] at hL
                have hne : (bs c2).toList.isEmpty = false := by rw [bs_isE]; simpa using hn

                injection hL with r1e r2e
                subst r1e r2e
                clear hn

                go_wp2_with fail
                refine HU.out.mono ?_
                rintro e w1 ⟨rfl, h1⟩
                obtain rfl := h1.symm
                clear h1 HU

                go_wp2_with fail
                refine HC.out.mono ?_
                rintro e w2 ⟨rfl, k2⟩
                have K2 := Lib.hid (HK.out.trans k2)
                clear k2 HC

                go_wp2_with fail
                go_ret2
                exact ⟨rfl, K2.out⟩
              · rw [if_neg (by simp), if_neg hn] at hL
                have hne : (bs c2).toList.isEmpty = true := by rw [bs_isE]; simpa using hn
                clear hn

                obtain ⟨f2, hf2⟩ : ∃ f2, f = f2 + 1 := ⟨f - 1, by have := HTF.out; have := HUL.out; omega⟩
                have HF2 := Lib.hid hf2
                have HNEXT := Lib.hid (show lookLR (f2 + 1) (decide (k + 1 = 0)) u = (r1, r2) by rw [decide_eq_false (by omega), ← hf2]; exact hL)
                clear hf2
                clear hL

                go_wp2_with fail
                refine HU.out.mono ?_
                rintro e w1 ⟨rfl, h1⟩
                obtain rfl := h1.symm
                clear h1 HU

                go_wp2_with fail
                refine HC.out.mono ?_
                rintro e w2 ⟨rfl, k2⟩
                have K2 := Lib.hid (HK.out.trans k2)
                clear k2 HC

                go_wp2_with fail
                go_roundg f
                case measure => exact Nat.lt_succ_self f
                case rel => exact ⟨f2, k + 1, u, HF2.out, rfl, by first | rfl | (simp; done), K2.out, by have := HKT.out; have := HUL.out; omega, by have := HTF.out; have := HUL.out; have := HF2.out; omega, HNEXT⟩
          · rw [if_neg (by simpa using hk0)] at hLL
            have hkq : ((k : Int) == 0) = false := by rw [beq_eq_false_iff_ne]; omega
            by_cases hH0 : H = []
            · rw [if_pos hH0] at hLL
              have hHe2 : (bs H).toList.isEmpty = true := by rw [hHe, hH0]; rfl
              injection hLL with r1e r2e
              subst r1e r2e
              clear hk0 hH0 hHe
              go_wp2_with fail
              refine HU.out.mono ?_
              rintro e w1 ⟨rfl, h1⟩
              obtain rfl := h1.symm
              clear h1 HU
              go_wp2_with fail
              go_ret2
              exact ⟨rfl, HK.out⟩
            · rw [if_neg hH0] at hLL
              have hHe2 : (bs H).toList.isEmpty = false := by rw [hHe]; simpa using hH0
              have hL := hLL
              clear hLL hk0 hH0 hHe
              have HC := Lib.hid (rfield_any wr H true hHb)
              replace hL : (if (fieldR H true).1 = false then ((3 : Int), ([] : List UInt8)) else if (fieldR H true).2.1 = true then (1, (fieldR H true).2.2) else lookLR f false u) = (r1, r2) := hL
              obtain ⟨⟨c1, c2, c3⟩, hc⟩ : ∃ r, fieldR H true = r := ⟨_, rfl⟩
              rw [hc] at HC hL
              dsimp only at HC hL
              clear hc
              cases c1 with
              | false =>
                rw [if_pos rfl] at hL

                injection hL with r1e r2e
                subst r1e r2e

                go_wp2_with fail
                refine HU.out.mono ?_
                rintro e w1 ⟨rfl, h1⟩
                obtain rfl := h1.symm
                clear h1 HU

                go_wp2_with fail
                refine HC.out.mono ?_
                rintro e w2 ⟨rfl, k2⟩
                have K2 := Lib.hid (HK.out.trans k2)
                clear k2 HC

                go_wp2_with fail
                go_ret2
                exact ⟨rfl, K2.out⟩
              | true =>
                cases c2 with
                | true =>
                  rw [if_neg (by simp), if_pos rfl] at hL

                  injection hL with r1e r2e
                  subst r1e r2e

                  go_wp2_with fail
                  refine HU.out.mono ?_
                  rintro e w1 ⟨rfl, h1⟩
                  obtain rfl := h1.symm
                  clear h1 HU

                  go_wp2_with fail
                  refine HC.out.mono ?_
                  rintro e w2 ⟨rfl, k2⟩
                  have K2 := Lib.hid (HK.out.trans k2)
                  clear k2 HC

                  go_wp2_with fail
                  go_ret2
                  exact ⟨rfl, K2.out⟩
                | false =>
                  rw [if_neg (by simp), if_neg (by simp)] at hL

                  obtain ⟨f2, hf2⟩ : ∃ f2, f = f2 + 1 := ⟨f - 1, by have := HTF.out; have := HUL.out; omega⟩
                  have HF2 := Lib.hid hf2
                  have HNEXT := Lib.hid (show lookLR (f2 + 1) (decide (k + 1 = 0)) u = (r1, r2) by rw [decide_eq_false (by omega), ← hf2]; exact hL)
                  clear hf2
                  clear hL

                  go_wp2_with fail
                  refine HU.out.mono ?_
                  rintro e w1 ⟨rfl, h1⟩
                  obtain rfl := h1.symm
                  clear h1 HU

                  go_wp2_with fail
                  refine HC.out.mono ?_
                  rintro e w2 ⟨rfl, k2⟩
                  have K2 := Lib.hid (HK.out.trans k2)
                  clear k2 HC

                  go_wp2_with fail
                  go_roundg f
                  case measure => exact Nat.lt_succ_self f
                  case rel => exact ⟨f2, k + 1, u, HF2.out, rfl, by first | rfl | (simp; done), K2.out, by have := HKT.out; have := HUL.out; omega, by have := HTF.out; have := HUL.out; have := HF2.out; omega, HNEXT⟩
        · have hxq := nat_ne hx
          rw [if_pos (fun h => hx (by rw [h]; rfl))] at hLL
          injection hLL with r1e r2e
          subst r1e r2e
          clear hx
          go_wp2_with fail
          refine HU.out.mono ?_
          rintro e w1 ⟨rfl, h1⟩
          obtain rfl := h1.symm
          clear h1 HU
          go_wp2_with fail
          go_ret2
          exact ⟨rfl, HK.out⟩
end Go.Proofs.YtpoheemjdieogaaGreatDoor
