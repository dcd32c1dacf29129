/-
  The walk of the document's first of HTTP: can a text begin a first line. No condition but that the string is not long.
-/
import Derived.Test.YtpoheemjdieogaaGreatDoorHrZ
namespace Go.Proofs.YtpoheemjdieogaaGreatDoor
open Go.RowKit Go.Lib
set_option linter.unusedVariables false
set_option linter.unusedSimpArgs false

def preL (s : List UInt8) (c : UInt8) : List UInt8 := s.takeWhile (fun x => !(x == c))
theorem untilR_pre (s : List UInt8) (c : UInt8) : untilR s c = if (preL s c).length < s.length then ((preL s c).length : Int) else -1 := rfl
theorem preL_le (s : List UInt8) (c : UInt8) : (preL s c).length ≤ s.length := (List.takeWhile_sublist _).length_le
theorem preL_take (s : List UInt8) (c : UInt8) : s.take (preL s c).length = preL s c := by
  unfold preL
  exact List.prefix_iff_eq_take.1 (List.takeWhile_prefix _) |>.symm
def h10 : List UInt8 := [72, 84, 84, 80, 47, 49, 46, 48]
def h11 : List UInt8 := [72, 84, 84, 80, 47, 49, 46, 49]
/-- what stands behind a method and a blank -/
def tailR (rest : List UInt8) (whole : Bool) : Bool × List UInt8 :=
  if (preL rest 32).length < rest.length then
    ((targetR (preL rest 32)).2.1 && (if whole = true then decide (rest.drop ((preL rest 32).length + 1) = h10) || decide (rest.drop ((preL rest 32).length + 1) = h11) else prefR (rest.drop ((preL rest 32).length + 1)) h10 || prefR (rest.drop ((preL rest 32).length + 1)) h11), (targetR (preL rest 32)).2.2)
  else ((targetR rest).1 && !whole, [])
def firstR (s : List UInt8) (whole : Bool) : Bool × List UInt8 :=
  if (preL s 32).all capB = false then (false, []) else
  if (preL s 32).length < s.length then
    if 16 < (preL s 32).length ∨ (preL s 32).length = 0 then (false, []) else tailR (s.drop ((preL s 32).length + 1)) whole
  else if 16 < s.length ∨ whole = true then (false, []) else (true, [])
set_option maxRecDepth 1000000 in
set_option maxHeartbeats 8000000 in
theorem rfirst_any (w : World) (s : List UInt8) (whole : Bool) (hs : s.length ≤ 1000000) : Calls Tryz.prog 59 #[.string (bs s), .bool whole] w fun e w' => e = .returned (.tuple #[.bool (firstR s whole).1, .string (bs (firstR s whole).2)]) ∧ Keeps [] w w' := by
  obtain ⟨⟨r1, r2⟩, hres⟩ : ∃ r, firstR s whole = r := ⟨_, rfl⟩
  rw [hres]
  dsimp only
  have HRES := Lib.hid hres
  have HU := Lib.hid (runtil_any w s 32 hs)
  rw [show ((32 : UInt8).toNat : Int) = 32 from rfl, untilR_pre] at HU
  have hle := preL_le s 32
  have htk := preL_take s 32
  have hun : firstR s whole = if (preL s 32).all capB = false then (false, []) else
      if (preL s 32).length < s.length then
        if 16 < (preL s 32).length ∨ (preL s 32).length = 0 then (false, []) else tailR (s.drop ((preL s 32).length + 1)) whole
      else if 16 < s.length ∨ whole = true then (false, []) else (true, []) := rfl
  obtain ⟨M, hM⟩ : ∃ M, preL s 32 = M := ⟨_, rfl⟩
  rw [hM] at HU hle htk hun
  rw [hres] at hun
  have HUN := Lib.hid hun
  obtain ⟨L, hL⟩ : ∃ L, M.length = L := ⟨_, rfl⟩
  rw [hL] at HU hle htk
  have HL := Lib.hid hL
  have hsz : (bs s).size = s.length := rfl
  have hMz : (bs M).size = M.length := rfl
  have hML : M.length ≤ 1000000 := by omega
  have HMB := Lib.hid hML
  clear hres hun hM
  by_cases hA : L < s.length
  · rw [if_pos hA] at HU
    have HAA := Lib.hid hA
    have he : (bs s).extract 0 L = bs M := by rw [bs_ext, List.drop_zero, Nat.sub_zero, htk]
    have a1 : (0 : Int) ≤ (L : Int) := by omega
    have a2 : (L : Int) ≤ (s.length : Int) := by omega
    have a3 : ¬ (L : Int) < 0 := by omega
    go_enter Tryz.func59, Tryz.ntmps59
    go_wp2_with fail
    refine HU.out.mono ?_
    rintro e w1 ⟨rfl, h1⟩
    obtain rfl := h1.symm
    clear h1 HU hle htk hA
    go_wp2_with fail
    go_loopg [8] (M.length + 1) (fun g iv wx => ∃ (pre post : List UInt8), M = pre ++ post ∧ g = post.length + 1 ∧ iv = .int .i64 pre.length ∧ wx = w ∧ pre.all capB = true)
    case atStart => exact ⟨[], M, rfl, rfl, rfl, rfl, rfl⟩
    case round =>
      obtain ⟨pre, post, hsp, hg, rfl, hwx, hall⟩ := hrel
      subst hg
      obtain rfl := hwx.symm
      clear hwx
      have hll : M.length = pre.length + post.length := by rw [hsp]; simp
      cases post with
      | nil =>
        have hlt : ¬ (pre.length : Int) < (M.length : Int) := by simp at hll; omega
        have hpm : pre = M := by rw [hsp]; simp
        rw [hpm] at hall
        have hst := HUN.out
        rw [if_neg (by rw [hall]; simp), if_pos (by rw [HL.out]; exact HAA.out)] at hst
        rw [HL.out] at hst
        have h16c : ∀ n : Nat, ((M.length : Int) = n) → M.length = n := fun n h => by omega
        have hLM : (L : Int) = (M.length : Int) := by rw [HL.out]
        by_cases h16 : 16 < L
        · have h16I : (16 : Int) < (M.length : Int) := by rw [HL.out]; omega
          rw [if_pos (Or.inl h16)] at hst
          injection hst with h1 h2
          subst h1 h2
          clear hsp hll hall hpm h16c hLM h16
          go_wp2_with fail
          go_ret2
          exact ⟨rfl, Keeps.refl _ _⟩
        have h16I : ¬ (16 : Int) < (M.length : Int) := by rw [HL.out]; omega
        by_cases h00 : L = 0
        · rw [if_pos (Or.inr h00)] at hst
          injection hst with h1 h2
          subst h1 h2
          have h0q : ((L : Int) == 0) = true := by rw [h00]; rfl
          clear hsp hll hall hpm h16c hLM h16
          go_wp2_with fail
          go_ret2
          exact ⟨rfl, Keeps.refl _ _⟩
        have h0q : ((L : Int) == 0) = false := by rw [beq_eq_false_iff_ne]; omega
        rw [if_neg (by omega)] at hst
        obtain ⟨R, hR⟩ : ∃ R, s.drop (L + 1) = R := ⟨_, rfl⟩
        rw [hR] at hst
        have hRl : R.length = s.length - (L + 1) := by rw [← hR, List.length_drop]
        have hRb : R.length ≤ 1000000 := by omega
        have HRB := Lib.hid hRb
        have hRz : (bs R).size = R.length := rfl
        have heR : (bs s).extract (L + 1) s.length = bs R := by rw [bs_ext, ← hR, List.take_of_length_le (by rw [List.length_drop]; omega)]
        have b1 : (0 : Int) ≤ (L : Int) + 1 := by omega
        have b2 : (L : Int) + 1 ≤ (s.length : Int) := by have := HAA.out; omega
        have hLb : L ≤ 1000000 := by have := HAA.out; omega
        have HU2 := Lib.hid (runtil_any w R 32 hRb)
        rw [show ((32 : UInt8).toNat : Int) = 32 from rfl, untilR_pre] at HU2
        have hle2 := preL_le R 32
        have htk2 := preL_take R 32
        unfold tailR at hst
        obtain ⟨N, hN⟩ : ∃ N, preL R 32 = N := ⟨_, rfl⟩
        rw [hN] at HU2 hle2 htk2 hst
        obtain ⟨B, hB⟩ : ∃ B, N.length = B := ⟨_, rfl⟩
        rw [hB] at HU2 hle2 htk2 hst
        have HB := Lib.hid hB
        have hNz : (bs N).size = N.length := rfl
        clear hsp hll hall hpm h16c hLM h16 h00 hN hB hR hRl hRb
        by_cases hC : B < R.length
        · rw [if_pos hC] at HU2 hst
          have CC := Lib.hid hC
          have heN : (bs R).extract 0 B = bs N := by rw [bs_ext, List.drop_zero, Nat.sub_zero, htk2]
          have c1 : (0 : Int) ≤ (B : Int) := by omega
          have c2 : (B : Int) ≤ (R.length : Int) := by omega
          have c3 : ¬ (B : Int) < 0 := by omega
          have c4 : (0 : Int) ≤ (B : Int) + 1 := by omega
          have c5 : (B : Int) + 1 ≤ (R.length : Int) := by omega
          have hBb : B ≤ 1000000 := by have := HRB.out; omega
          obtain ⟨V, hV⟩ : ∃ V, R.drop (B + 1) = V := ⟨_, rfl⟩
          rw [hV] at hst
          have hVz : (bs V).size = V.length := rfl
          have hVb : V.length ≤ 1000000 := by have := HRB.out; rw [← hV, List.length_drop]; omega
          have heV : (bs R).extract (B + 1) R.length = bs V := by rw [bs_ext, ← hV, List.take_of_length_le (by rw [List.length_drop]; omega)]
          have HT := Lib.hid (rtarget_any w N (by have := HRB.out; have := HB.out; omega))
          obtain ⟨⟨t1, t2, t3⟩, ht⟩ : ∃ r, targetR N = r := ⟨_, rfl⟩
          rw [ht] at HT hst
          dsimp only at HT hst
          have HP0 := Lib.hid (fun w1 => rprefix_any w1 V h10 hVb (by decide))
          have HP1 := Lib.hid (fun w1 => rprefix_any w1 V h11 hVb (by decide))
          have hq0 : ((bs V).toList == ([72, 84, 84, 80, 47, 49, 46, 48] : List UInt8)) = decide (V = h10) := by
            rw [Lib.toList_data]
            show (V == h10) = _
            by_cases h : V = h10 <;> simp [h]
          have hq1 : ((bs V).toList == ([72, 84, 84, 80, 47, 49, 46, 49] : List UInt8)) = decide (V = h11) := by
            rw [Lib.toList_data]
            show (V == h11) = _
            by_cases h : V = h11 <;> simp [h]
          have hk0 : bs h10 = ⟨#[72, 84, 84, 80, 47, 49, 46, 48]⟩ := rfl
          have hk1 : bs h11 = ⟨#[72, 84, 84, 80, 47, 49, 46, 49]⟩ := rfl
          rw [hk0] at HP0
          rw [hk1] at HP1
          injection hst with h1 h2
          subst h2
          have HV := Lib.hid hVb
          clear ht hV hVb hk0 hk1 hC hle2 htk2
          cases t2 with
          | false =>
            replace h1 : r1 = false := h1
            subst h1
            clear HP0 HP1 hq0 hq1
            cases whole with
            | true =>
              go_wp2_with fail
              refine HU2.out.mono ?_
              rintro e w1 ⟨rfl, k1⟩
              obtain rfl := k1.symm
              clear k1 HU2
              go_wp2_with fail
              refine HT.out.mono ?_
              rintro e w1 ⟨rfl, k1⟩
              have K1 := Lib.hid k1
              clear k1 HT
              go_wp2_with fail
              go_ret2
              exact ⟨rfl, K1.out⟩
            | false =>
              go_wp2_with fail
              refine HU2.out.mono ?_
              rintro e w1 ⟨rfl, k1⟩
              obtain rfl := k1.symm
              clear k1 HU2
              go_wp2_with fail
              refine HT.out.mono ?_
              rintro e w1 ⟨rfl, k1⟩
              have K1 := Lib.hid k1
              clear k1 HT
              go_wp2_with fail
              go_ret2
              exact ⟨rfl, K1.out⟩
          | true =>
            cases whole with
            | true =>
              replace h1 : r1 = (decide (V = h10) || decide (V = h11)) := h1
              clear HP0 HP1
              cases hd0 : decide (V = h10) with
              | true =>
                rw [hd0] at hq0 h1
                replace h1 : r1 = true := h1
                subst h1
                clear hd0 hq1
                go_wp2_with fail
                refine HU2.out.mono ?_
                rintro e w1 ⟨rfl, k1⟩
                obtain rfl := k1.symm
                clear k1 HU2
                go_wp2_with fail
                refine HT.out.mono ?_
                rintro e w1 ⟨rfl, k1⟩
                have K1 := Lib.hid k1
                clear k1 HT
                go_wp2_with fail
                go_ret2
                exact ⟨rfl, K1.out⟩
              | false =>
                rw [hd0] at hq0 h1
                replace h1 : r1 = decide (V = h11) := h1
                subst h1
                clear hd0
                go_wp2_with fail
                refine HU2.out.mono ?_
                rintro e w1 ⟨rfl, k1⟩
                obtain rfl := k1.symm
                clear k1 HU2
                go_wp2_with fail
                refine HT.out.mono ?_
                rintro e w1 ⟨rfl, k1⟩
                have K1 := Lib.hid k1
                clear k1 HT
                go_wp2_with fail
                go_ret2
                exact ⟨rfl, K1.out⟩
            | false =>
              replace h1 : r1 = (prefR V h10 || prefR V h11) := h1
              clear hq0 hq1
              cases hd0 : prefR V h10 with
              | true =>
                rw [hd0] at HP0 h1
                replace h1 : r1 = true := h1
                subst h1
                clear hd0 HP1
                go_wp2_with fail
                refine HU2.out.mono ?_
                rintro e w1 ⟨rfl, k1⟩
                obtain rfl := k1.symm
                clear k1 HU2
                go_wp2_with fail
                refine HT.out.mono ?_
                rintro e w1 ⟨rfl, k1⟩
                have K1 := Lib.hid k1
                clear k1 HT
                go_wp2_with fail
                refine (HP0.out w1).mono ?_
                rintro e w2 ⟨rfl, k2⟩
                obtain rfl := k2.symm
                clear k2 HP0
                go_wp2_with fail
                go_ret2
                exact ⟨rfl, K1.out⟩
              | false =>
                rw [hd0] at HP0 h1
                replace h1 : r1 = prefR V h11 := h1
                subst h1
                clear hd0
                go_wp2_with fail
                refine HU2.out.mono ?_
                rintro e w1 ⟨rfl, k1⟩
                obtain rfl := k1.symm
                clear k1 HU2
                go_wp2_with fail
                refine HT.out.mono ?_
                rintro e w1 ⟨rfl, k1⟩
                have K1 := Lib.hid k1
                clear k1 HT
                go_wp2_with fail
                refine (HP0.out w1).mono ?_
                rintro e w2 ⟨rfl, k2⟩
                obtain rfl := k2.symm
                clear k2 HP0
                go_wp2_with fail
                refine (HP1.out w1).mono ?_
                rintro e w2 ⟨rfl, k2⟩
                obtain rfl := k2.symm
                clear k2 HP1
                go_wp2_with fail
                go_ret2
                exact ⟨rfl, K1.out⟩
        · rw [if_neg hC] at HU2 hst
          have HT := Lib.hid (rtarget_any w R HRB.out)
          obtain ⟨⟨t1, t2, t3⟩, ht⟩ : ∃ r, targetR R = r := ⟨_, rfl⟩
          rw [ht] at HT hst
          dsimp only at HT hst
          injection hst with h1 h2
          subst h2
          clear ht hC hle2 htk2
          cases whole with
          | true =>
            replace h1 : r1 = false := by rw [h1]; simp
            subst h1
            cases t1 with
            | true =>
              go_wp2_with fail
              refine HU2.out.mono ?_
              rintro e w1 ⟨rfl, k1⟩
              obtain rfl := k1.symm
              clear k1 HU2
              go_wp2_with fail
              refine HT.out.mono ?_
              rintro e w1 ⟨rfl, k1⟩
              have K1 := Lib.hid k1
              clear k1 HT
              go_wp2_with fail
              go_ret2
              exact ⟨rfl, K1.out⟩
            | false =>
              go_wp2_with fail
              refine HU2.out.mono ?_
              rintro e w1 ⟨rfl, k1⟩
              obtain rfl := k1.symm
              clear k1 HU2
              go_wp2_with fail
              refine HT.out.mono ?_
              rintro e w1 ⟨rfl, k1⟩
              have K1 := Lib.hid k1
              clear k1 HT
              go_wp2_with fail
              go_ret2
              exact ⟨rfl, K1.out⟩
          | false =>
            replace h1 : r1 = t1 := by rw [h1]; simp
            subst h1
            cases r1 with
            | true =>
              go_wp2_with fail
              refine HU2.out.mono ?_
              rintro e w1 ⟨rfl, k1⟩
              obtain rfl := k1.symm
              clear k1 HU2
              go_wp2_with fail
              refine HT.out.mono ?_
              rintro e w1 ⟨rfl, k1⟩
              have K1 := Lib.hid k1
              clear k1 HT
              go_wp2_with fail
              go_ret2
              exact ⟨rfl, K1.out⟩
            | false =>
              go_wp2_with fail
              refine HU2.out.mono ?_
              rintro e w1 ⟨rfl, k1⟩
              obtain rfl := k1.symm
              clear k1 HU2
              go_wp2_with fail
              refine HT.out.mono ?_
              rintro e w1 ⟨rfl, k1⟩
              have K1 := Lib.hid k1
              clear k1 HT
              go_wp2_with fail
              go_ret2
              exact ⟨rfl, K1.out⟩
      | cons x post =>
        have hlt : (pre.length : Int) < (M.length : Int) := by simp at hll; omega
        have hget : ∀ h, (bs M)[pre.length]'h = x := by rw [hsp]; exact fun h => bs_mid pre post x h
        have hlt3 : pre.length < (bs M).size := by rw [bs_size]; simp at hll; omega
        have hg2 := hget hlt3
        have hpb : pre.length ≤ 1000000 := by simp at hll; omega
        have CC := Lib.hid (rcapital_any w x)
        have HSP := Lib.hid hsp
        cases hx : capB x with
        | false =>
          rw [hx] at CC
          have hr : (r1, r2) = (false, []) := by
            rw [HUN.out, if_pos (List.all_eq_false.2 ⟨x, by rw [hsp]; simp, by rw [hx]; simp⟩)]
          injection hr with h1 h2
          subst h1 h2
          clear hsp hll hall hget hx HUN HRES
          go_wp2_with (first | (go_at_call 96; refine CC.out.mono ?_; rintro e w1 ⟨rfl, hw1⟩; obtain rfl := hw1.symm; clear hw1))
          go_ret2
          exact ⟨rfl, Keeps.refl _ _⟩
        | true =>
          rw [hx] at CC
          have HAL := Lib.hid (show (pre ++ [x]).all capB = true by rw [List.all_append, hall]; simp [hx])
          clear hsp hll hall hget hx
          go_wp2_with (first | (go_at_call 96; refine CC.out.mono ?_; rintro e w1 ⟨rfl, hw1⟩; obtain rfl := hw1.symm; clear hw1))
          go_roundg (post.length + 1)
          case measure => simp
          case rel => exact ⟨pre ++ [x], post, by rw [HSP.out]; simp, rfl, by simp, rfl, HAL.out⟩
  · rw [if_neg hA] at HU
    have hMs : M = s := by rw [← htk, List.take_of_length_le (by omega)]
    subst hMs
    have HAA := Lib.hid hA
    have m1 : (-1 : Int) < 0 := by decide
    go_enter Tryz.func59, Tryz.ntmps59
    go_wp2_with fail
    refine HU.out.mono ?_
    rintro e w1 ⟨rfl, h1⟩
    obtain rfl := h1.symm
    clear h1 HU hle htk hA
    go_wp2_with fail
    go_loopg [8] (M.length + 1) (fun g iv wx => ∃ (pre post : List UInt8), M = pre ++ post ∧ g = post.length + 1 ∧ iv = .int .i64 pre.length ∧ wx = w ∧ pre.all capB = true)
    case atStart => exact ⟨[], M, rfl, rfl, rfl, rfl, rfl⟩
    case round =>
      obtain ⟨pre, post, hsp, hg, rfl, hwx, hall⟩ := hrel
      subst hg
      obtain rfl := hwx.symm
      clear hwx
      have hll : M.length = pre.length + post.length := by rw [hsp]; simp
      cases post with
      | nil =>
        have hlt : ¬ (pre.length : Int) < (M.length : Int) := by simp at hll; omega
        have hpm : pre = M := by rw [hsp]; simp
        rw [hpm] at hall
        have hst := HUN.out
        rw [if_neg (by rw [hall]; simp), if_neg (Nat.lt_irrefl _)] at hst
        by_cases h16 : 16 < M.length
        · have h16I : (16 : Int) < (M.length : Int) := by omega
          rw [if_pos (Or.inl h16)] at hst
          injection hst with h1 h2
          subst h1 h2
          clear hsp hll hall hpm h16
          go_wp2_with fail
          go_ret2
          exact ⟨rfl, Keeps.refl _ _⟩
        have h16I : ¬ (16 : Int) < (M.length : Int) := by omega
        cases whole with
        | true =>
          rw [if_pos (Or.inr rfl)] at hst
          injection hst with h1 h2
          subst h1 h2
          clear hsp hll hall hpm h16
          go_wp2_with fail
          go_ret2
          exact ⟨rfl, Keeps.refl _ _⟩
        | false =>
          rw [if_neg (by simp [h16])] at hst
          injection hst with h1 h2
          subst h1 h2
          clear hsp hll hall hpm h16
          go_wp2_with fail
          go_ret2
          exact ⟨rfl, Keeps.refl _ _⟩
      | cons x post =>
        have hlt : (pre.length : Int) < (M.length : Int) := by simp at hll; omega
        have hget : ∀ h, (bs M)[pre.length]'h = x := by rw [hsp]; exact fun h => bs_mid pre post x h
        have hlt3 : pre.length < (bs M).size := by rw [bs_size]; simp at hll; omega
        have hg2 := hget hlt3
        have hpb : pre.length ≤ 1000000 := by simp at hll; omega
        have CC := Lib.hid (rcapital_any w x)
        have HSP := Lib.hid hsp
        cases hx : capB x with
        | false =>
          rw [hx] at CC
          have hr : (r1, r2) = (false, []) := by
            rw [HUN.out, if_pos (List.all_eq_false.2 ⟨x, by rw [hsp]; simp, by rw [hx]; simp⟩)]
          injection hr with h1 h2
          subst h1 h2
          clear hsp hll hall hget hx HUN HRES
          go_wp2_with (first | (go_at_call 96; refine CC.out.mono ?_; rintro e w1 ⟨rfl, hw1⟩; obtain rfl := hw1.symm; clear hw1))
          go_ret2
          exact ⟨rfl, Keeps.refl _ _⟩
        | true =>
          rw [hx] at CC
          have HAL := Lib.hid (show (pre ++ [x]).all capB = true by rw [List.all_append, hall]; simp [hx])
          clear hsp hll hall hget hx
          go_wp2_with (first | (go_at_call 96; refine CC.out.mono ?_; rintro e w1 ⟨rfl, hw1⟩; obtain rfl := hw1.symm; clear hw1))
          go_roundg (post.length + 1)
          case measure => simp
          case rel => exact ⟨pre ++ [x], post, by rw [HSP.out]; simp, rfl, by simp, rfl, HAL.out⟩
end Go.Proofs.YtpoheemjdieogaaGreatDoor
