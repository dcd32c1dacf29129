/-
  The walk of the document's look of TLS: hello. Printed by program. Condition: the look lies in memory as RkAt says.
-/
import Derived.Test.YtpoheemjdieogaaGreatDoorTrN
import Derived.Deep.Cut
namespace Go.Proofs.YtpoheemjdieogaaGreatDoor
open Go.RowKit Go.Lib
set_option linter.unusedVariables false
set_option linter.unusedSimpArgs false

theorem must_d {s : RS} {ok d : Bool} (h : d = (!s.over && !ok)) : s.must ok = if d = true then s.bad else s := by
  subst h
  unfold RS.must
  cases s.over <;> cases ok <;> rfl
theorem extsR_end {bs : List UInt8} {k e : Nat} {b : Bool} {s : RS} (h : s.over = true ∨ e ≤ s.i ∨ s.nd = true) : extsR bs k e b s = s := by
  cases k with
  | zero => rfl
  | succ k => rw [extsR, if_pos h]
theorem extR_eq {bs : List UInt8} {e : Nat} {s b1 b2 : RS} {kind T : Nat} {seen : Bool} (h1 : numR bs 2 e s = (kind, b1)) (h2 : cntR bs 2 e b1 = (T, b2)) :
    extR bs e seen s = if b2.over = true then (seen, b2) else if kind ≠ 0 then (seen, passR bs T e b2) else if seen = true then (seen, b2.bad) else (true, namesR bs (T - ((cntR bs 2 T b2).2.must (decide ((cntR bs 2 T b2).1 = T) && !decide ((cntR bs 2 T b2).1 = (cntR bs 2 T b2).2.i))).i) T ((cntR bs 2 T b2).2.must (decide ((cntR bs 2 T b2).1 = T) && !decide ((cntR bs 2 T b2).1 = (cntR bs 2 T b2).2.i)))) := by
  unfold extR
  rw [h1]
  dsimp only
  rw [h2]
theorem extR_on {bs : List UInt8} {e : Nat} {s : RS} {seen : Bool} (h : s.over = false) (h2 : (extR bs e seen s).2.over = false) : s.i < (extR bs e seen s).2.i := by
  have hc := ext_corr bs e (s.toL seen)
  rw [toL_toR h] at hc
  cases hn : numL bs 2 e (s.toL seen) with
  | error c =>
    rw [hn] at hc
    have hc : Corr2 (.error c) (extR bs e seen s) := hc
    have := Corr.over hc.1
    rw [h2] at this; cases this
  | ok y =>
    obtain ⟨kind, s1⟩ := y
    rw [hn] at hc
    have hc : Corr2 (someL bs 2 e anyQ (fun n e' t => extL bs kind n e' t) s1) (extR bs e seen s) := hc
    cases hs : someL bs 2 e anyQ (fun n e' t => extL bs kind n e' t) s1 with
    | error c =>
      rw [hs] at hc
      have := Corr.over hc.1
      rw [h2] at this; cases this
    | ok s2 =>
      rw [hs] at hc
      have hc : (extR bs e seen s).2 = s2.toR := hc.1
      have h3 := someL_at (fun n e' t t' h => extL_at h) hs
      have h4 := (numL_at hn).1
      rw [hc]
      show s.i < s2.at_
      have h5 : (s.toL seen).at_ = s.i := rfl
      omega
section
variable {bs : List UInt8} {p : Nat} {A : Option Addr} {m c : Nat}
theorem RkAt.must {w : World} {s : RS} (h : RkAt bs w p A m c s) {ok : Bool} (hd : true = (!s.over && !ok)) : RkAt bs (w.setCell ⟨p, 3, none⟩ (.bool true)) p A m c (s.must ok) := by
  rw [must_d hd, if_pos rfl]; exact h.bad
theorem RkAt.mustn {w : World} {s : RS} (h : RkAt bs w p A m c s) {ok : Bool} (hd : false = (!s.over && !ok)) : RkAt bs w p A m c (s.must ok) := by
  rw [must_d hd, if_neg (by simp)]; exact h
set_option maxRecDepth 100000 in
set_option maxHeartbeats 16000000 in
theorem rhello_any (w : World) (h : RkAt bs w p A m c rs0) :
    Calls Tryz.prog 57 #[.pointer (some ⟨p, 0, none⟩)] w fun en w' => en = .returned (.tuple #[]) ∧ RkAt bs w' p A m c (helloR bs) ∧ Keeps [p] w w' := by
  obtain ⟨⟨n1, a1⟩, q1⟩ : ∃ y, numR bs 1 e0 rs0 = y := ⟨_, rfl⟩
  obtain ⟨a2, q2⟩ : ∃ y, a1.must (decide (n1 = 1)) = y := ⟨_, rfl⟩
  obtain ⟨⟨E, a3⟩, q3⟩ : ∃ y, cntR bs 3 e0 a2 = y := ⟨_, rfl⟩
  obtain ⟨a4, q4⟩ : ∃ y, passR bs (a3.i + 34) E a3 = y := ⟨_, rfl⟩
  obtain ⟨⟨T1, a5⟩, q5⟩ : ∃ y, cntR bs 1 E a4 = y := ⟨_, rfl⟩
  obtain ⟨a6, q6⟩ : ∃ y, a5.must (decide (T1 - a5.i ≤ 32)) = y := ⟨_, rfl⟩
  obtain ⟨a7, q7⟩ : ∃ y, passR bs T1 E a6 = y := ⟨_, rfl⟩
  obtain ⟨⟨T2, a8⟩, q8⟩ : ∃ y, cntR bs 2 E a7 = y := ⟨_, rfl⟩
  obtain ⟨a9, q9⟩ : ∃ y, a8.must (decide (2 ≤ T2 - a8.i ∧ (T2 - a8.i) % 2 = 0)) = y := ⟨_, rfl⟩
  obtain ⟨a10, q10⟩ : ∃ y, passR bs T2 E a9 = y := ⟨_, rfl⟩
  obtain ⟨⟨T3, a11⟩, q11⟩ : ∃ y, cntR bs 1 E a10 = y := ⟨_, rfl⟩
  obtain ⟨a12, q12⟩ : ∃ y, a11.must (decide (1 ≤ T3 - a11.i)) = y := ⟨_, rfl⟩
  obtain ⟨a13, q13⟩ : ∃ y, passR bs T3 E a12 = y := ⟨_, rfl⟩
  obtain ⟨⟨T4, a14⟩, q14⟩ : ∃ y, cntR bs 2 E a13 = y := ⟨_, rfl⟩
  obtain ⟨a15, q15⟩ : ∃ y, a14.must (decide (T4 = E)) = y := ⟨_, rfl⟩
  have p1 : partR bs 1 E (fun n => decide (n ≤ 32)) a4 = a7 := by unfold partR; rw [q5]; dsimp only; rw [q6, q7]
  have p2 : partR bs 2 E (fun n => decide (2 ≤ n ∧ n % 2 = 0)) a7 = a10 := by unfold partR; rw [q8]; dsimp only; rw [q9, q10]
  have p3 : partR bs 1 E (fun n => decide (1 ≤ n)) a10 = a13 := by unfold partR; rw [q11]; dsimp only; rw [q12, q13]
  have HEL := Lib.hid (show helloR bs = if a13.over = true ∨ a13.i = E then a13 else extsR bs (E - a15.i) E false a15 by
    unfold helloR
    rw [q1]; dsimp only; rw [q2, q3]; dsimp only
    unfold bodyR
    dsimp only
    rw [q4, p1, p2, p3, q14]; dsimp only; rw [q15])
  have Ga5 := Lib.hid (show a5.i ≤ T1 by have := cntR_ge (bs := bs) (size := 1) (e := E) (s := a4); rw [q5] at this; exact this)
  have Ga8 := Lib.hid (show a8.i ≤ T2 by have := cntR_ge (bs := bs) (size := 2) (e := E) (s := a7); rw [q8] at this; exact this)
  have Ga11 := Lib.hid (show a11.i ≤ T3 by have := cntR_ge (bs := bs) (size := 1) (e := E) (s := a10); rw [q11] at this; exact this)
  have HSr := Lib.hid (And.intro h (Keeps.refl [p] w))
  clear p1 p2 p3 h
  have Qa1 := Lib.hid q1
  have Qa2 := Lib.hid q2
  have Qa3 := Lib.hid q3
  have Qa4 := Lib.hid q4
  have Qa5 := Lib.hid q5
  have Qa6 := Lib.hid q6
  have Qa7 := Lib.hid q7
  have Qa8 := Lib.hid q8
  have Qa9 := Lib.hid q9
  have Qa10 := Lib.hid q10
  have Qa11 := Lib.hid q11
  have Qa12 := Lib.hid q12
  have Qa13 := Lib.hid q13
  have Qa14 := Lib.hid q14
  have Qa15 := Lib.hid q15
  clear q1 q2 q3 q4 q5 q6 q7 q8 q9 q10 q11 q12 q13 q14 q15
  have HN := Lib.hid (rnumber_any w rs0 HSr.out.1 1 e0 (by omega) (by decide))
  rw [Qa1.out] at HN
  dsimp only at HN
  go_enter Tryz.func57, Tryz.ntmps57
  go_wp2_with fail
  refine HN.out.mono ?_
  rintro en w1 ⟨rfl, h1, k1⟩
  have HSa1 := Lib.hid (And.intro h1 k1)
  clear h1 k1 HN HSr
  go_upto_region 1 with fail
  go_cut [15] (fun bv wx => ∃ d : Bool, bv = .bool d ∧ Hid (wx = w1 ∧ d = (!a1.over && !decide (n1 = 1))))
  case first =>
    as_aux_lemma =>
      have HO := Lib.hid (rover_any w1 a1 HSa1.out.1)
      cases ho : a1.over with
      | true =>
        rw [ho] at HO
        have HG := Lib.hid (show false = (!a1.over && !decide (n1 = 1)) by rw [ho]; rfl)
        clear ho
        go_wp2_with fail
        refine HO.out.mono ?_
        rintro en w9 ⟨rfl, h9⟩
        obtain rfl := h9.symm
        clear HO h9
        go_wp2_with fail
        go_meet
        exact ⟨false, rfl, Lib.hid ⟨rfl, by rw [← HG.out]⟩⟩
      | false =>
        rw [ho] at HO
        have HOV := Lib.hid ho
        clear ho
        skip
        by_cases hq : n1 = 1
        · skip
          have f9 : ((n1 : Int) != 1) = false := by simp; omega
          have HG := Lib.hid (show false = (!a1.over && !decide (n1 = 1)) by rw [HOV.out, decide_eq_true hq]; rfl)
          clear hq
          go_wp2_with fail
          refine HO.out.mono ?_
          rintro en w9 ⟨rfl, h9⟩
          obtain rfl := h9.symm
          clear HO h9
          go_wp2_with fail
          go_meet
          exact ⟨false, rfl, Lib.hid ⟨rfl, by rw [← HG.out]⟩⟩
        · skip
          have f9 : ((n1 : Int) != 1) = true := by simp; omega
          have HG := Lib.hid (show true = (!a1.over && !decide (n1 = 1)) by rw [HOV.out, decide_eq_false hq]; rfl)
          clear hq
          go_wp2_with fail
          refine HO.out.mono ?_
          rintro en w9 ⟨rfl, h9⟩
          obtain rfl := h9.symm
          clear HO h9
          go_wp2_with fail
          go_meet
          exact ⟨true, rfl, Lib.hid ⟨rfl, by rw [← HG.out]⟩⟩
  case rest =>
    as_aux_lemma =>
      obtain ⟨d, rfl, HD⟩ := hcut
      obtain rfl := HD.out.1.symm
      have HD2 := Lib.hid HD.out.2
      clear HD
      go_upto_if 15 with fail
      go_cut [] (fun wx => Hid (RkAt bs wx p A m c a2 ∧ Keeps [p] w wx))
      case first =>
        as_aux_lemma =>
          cases d with
          | true =>
            have x3 : w1.cell? ⟨p, 3, none⟩ = some (.bool a1.wr) := cell_of_block HSa1.out.1.at_ 3
            have z3 : w1.frozen? ⟨p, 3, none⟩ = false := free_of_block HSa1.out.1.at_ 3
            obtain ⟨b0, hb0⟩ : ∃ b, a1.wr = b := ⟨_, rfl⟩
            rw [hb0] at x3
            clear hb0
            have HF := Lib.hid (show RkAt bs (w1.setCell ⟨p, 3, none⟩ (.bool true)) p A m c a2 ∧ Keeps [p] w (w1.setCell ⟨p, 3, none⟩ (.bool true)) from ⟨by rw [← Qa2.out]; exact HSa1.out.1.must HD2.out, HSa1.out.2.trans (Keeps.setCell w1 ⟨p, 3, none⟩ _)⟩)
            go_wp2_with fail
            go_meet
            exact HF
          | false =>
            have HF := Lib.hid (show RkAt bs w1 p A m c a2 ∧ Keeps [p] w w1 from ⟨by rw [← Qa2.out]; exact HSa1.out.1.mustn HD2.out, HSa1.out.2⟩)
            go_wp2_with fail
            go_meet
            exact HF
      case rest =>
        as_aux_lemma =>
          have HSa2 := hcut
          clear HD2 HSa1
          have HC := Lib.hid (rcount_any wc a2 HSa2.out.1 3 e0 (by omega) (by decide))
          rw [Qa3.out] at HC
          dsimp only at HC
          go_wp2_with fail
          refine HC.out.mono ?_
          rintro en w3 ⟨rfl, h1, k1, hT⟩
          have HSa3 := Lib.hid (And.intro h1 (HSa2.out.2.trans k1))
          have BE := Lib.hid hT
          clear h1 k1 hT HC HSa2
          obtain ⟨i3, hi3⟩ : ∃ i, a3.i = i := ⟨_, rfl⟩
          obtain ⟨J3, hJ3⟩ : ∃ j, i3 + 34 = j := ⟨_, rfl⟩
          have ci : w3.cell? ⟨p, 1, none⟩ = some (.int .i64 (i3 : Int)) := by rw [← hi3]; exact cell_of_block HSa3.out.1.at_ 1
          have f1 : IntKind.i64.wrap ((i3 : Int) + 34) = (J3 : Int) := by have h1 := HSa3.out.1.le; have h2 := HSa3.out.1.len; rw [wrap_in] <;> omega
          have Qa4' := Lib.hid (show passR bs J3 E a3 = a4 by rw [← Qa4.out, hi3, hJ3])
          clear hi3 hJ3 Qa4
          have Qa4 := Qa4'
          clear Qa4'
          have HP := Lib.hid (rpass_any w3 a3 HSa3.out.1 J3 E)
          rw [Qa4.out] at HP
          go_wp2_with fail
          refine HP.out.mono ?_
          rintro en w4 ⟨rfl, h1, k1⟩
          have HSa4 := Lib.hid (And.intro h1 (HSa3.out.2.trans k1))
          clear h1 k1 HP HSa3
          clear ci f1
          have HC := Lib.hid (rcount_any w4 a4 HSa4.out.1 1 E (by omega) BE.out)
          rw [Qa5.out] at HC
          dsimp only at HC
          go_wp2_with fail
          refine HC.out.mono ?_
          rintro en w5 ⟨rfl, h1, k1, hT⟩
          have HSa5 := Lib.hid (And.intro h1 (HSa4.out.2.trans k1))
          have BT1 := Lib.hid hT
          clear h1 k1 hT HC HSa4
          go_upto_region 6 with fail
          go_cut [43] (fun bv wx => ∃ d : Bool, bv = .bool d ∧ Hid (wx = w5 ∧ d = (!a5.over && !decide (T1 - a5.i ≤ 32))))
          case first =>
            as_aux_lemma =>
              have HO := Lib.hid (rover_any w5 a5 HSa5.out.1)
              cases ho : a5.over with
              | true =>
                rw [ho] at HO
                have HG := Lib.hid (show false = (!a5.over && !decide (T1 - a5.i ≤ 32)) by rw [ho]; rfl)
                clear ho
                go_wp2_with fail
                refine HO.out.mono ?_
                rintro en w9 ⟨rfl, h9⟩
                obtain rfl := h9.symm
                clear HO h9
                go_wp2_with fail
                go_meet
                exact ⟨false, rfl, Lib.hid ⟨rfl, by rw [← HG.out]⟩⟩
              | false =>
                rw [ho] at HO
                have HOV := Lib.hid ho
                clear ho
                obtain ⟨i, hi⟩ : ∃ i, a5.i = i := ⟨_, rfl⟩
                obtain ⟨D, hD⟩ : ∃ D, T1 - i = D := ⟨_, rfl⟩
                have ci : w5.cell? ⟨p, 1, none⟩ = some (.int .i64 (i : Int)) := by rw [← hi]; exact cell_of_block HSa5.out.1.at_ 1
                have hge : i ≤ T1 := by have := Ga5.out; omega
                have hTb := BT1.out
                have f1 : IntKind.i64.wrap ((T1 : Int) - (i : Int)) = (D : Int) := by rw [wrap_in] <;> omega
                have Hf1 := Lib.hid f1
                clear f1
                have HDD := Lib.hid (show T1 - a5.i = D by omega)
                clear hge hTb hi hD
                by_cases hq : D ≤ 32
                · skip
                  have f9 : decide ((32 : Int) < (D : Int)) = false := decide_eq_false (by omega)
                  have HG := Lib.hid (show false = (!a5.over && !decide (T1 - a5.i ≤ 32)) by rw [HOV.out, HDD.out, decide_eq_true hq]; rfl)
                  clear hq
                  have f1 := Hf1.out
                  go_wp2_with fail
                  refine HO.out.mono ?_
                  rintro en w9 ⟨rfl, h9⟩
                  obtain rfl := h9.symm
                  clear HO h9
                  go_wp2_with fail
                  go_meet
                  exact ⟨false, rfl, Lib.hid ⟨rfl, by rw [← HG.out]⟩⟩
                · skip
                  have f9 : decide ((32 : Int) < (D : Int)) = true := decide_eq_true (by omega)
                  have HG := Lib.hid (show true = (!a5.over && !decide (T1 - a5.i ≤ 32)) by rw [HOV.out, HDD.out, decide_eq_false hq]; rfl)
                  clear hq
                  have f1 := Hf1.out
                  go_wp2_with fail
                  refine HO.out.mono ?_
                  rintro en w9 ⟨rfl, h9⟩
                  obtain rfl := h9.symm
                  clear HO h9
                  go_wp2_with fail
                  go_meet
                  exact ⟨true, rfl, Lib.hid ⟨rfl, by rw [← HG.out]⟩⟩
          case rest =>
            as_aux_lemma =>
              obtain ⟨d, rfl, HD⟩ := hcut
              obtain rfl := HD.out.1.symm
              have HD2 := Lib.hid HD.out.2
              clear HD
              go_upto_if 43 with fail
              go_cut [] (fun wx => Hid (RkAt bs wx p A m c a6 ∧ Keeps [p] w wx))
              case first =>
                as_aux_lemma =>
                  cases d with
                  | true =>
                    have x3 : w5.cell? ⟨p, 3, none⟩ = some (.bool a5.wr) := cell_of_block HSa5.out.1.at_ 3
                    have z3 : w5.frozen? ⟨p, 3, none⟩ = false := free_of_block HSa5.out.1.at_ 3
                    obtain ⟨b0, hb0⟩ : ∃ b, a5.wr = b := ⟨_, rfl⟩
                    rw [hb0] at x3
                    clear hb0
                    have HF := Lib.hid (show RkAt bs (w5.setCell ⟨p, 3, none⟩ (.bool true)) p A m c a6 ∧ Keeps [p] w (w5.setCell ⟨p, 3, none⟩ (.bool true)) from ⟨by rw [← Qa6.out]; exact HSa5.out.1.must HD2.out, HSa5.out.2.trans (Keeps.setCell w5 ⟨p, 3, none⟩ _)⟩)
                    go_wp2_with fail
                    go_meet
                    exact HF
                  | false =>
                    have HF := Lib.hid (show RkAt bs w5 p A m c a6 ∧ Keeps [p] w w5 from ⟨by rw [← Qa6.out]; exact HSa5.out.1.mustn HD2.out, HSa5.out.2⟩)
                    go_wp2_with fail
                    go_meet
                    exact HF
              case rest =>
                as_aux_lemma =>
                  have HSa6 := hcut
                  clear HD2 HSa5
                  have HP := Lib.hid (rpass_any wc a6 HSa6.out.1 T1 E)
                  rw [Qa7.out] at HP
                  go_wp2_with fail
                  refine HP.out.mono ?_
                  rintro en w7 ⟨rfl, h1, k1⟩
                  have HSa7 := Lib.hid (And.intro h1 (HSa6.out.2.trans k1))
                  clear h1 k1 HP HSa6
                  have HC := Lib.hid (rcount_any w7 a7 HSa7.out.1 2 E (by omega) BE.out)
                  rw [Qa8.out] at HC
                  dsimp only at HC
                  go_wp2_with fail
                  refine HC.out.mono ?_
                  rintro en w8 ⟨rfl, h1, k1, hT⟩
                  have HSa8 := Lib.hid (And.intro h1 (HSa7.out.2.trans k1))
                  have BT2 := Lib.hid hT
                  clear h1 k1 hT HC HSa7
                  go_upto_region 10 with fail
                  go_cut [75] (fun bv wx => ∃ d : Bool, bv = .bool d ∧ Hid (wx = w8 ∧ d = (!a8.over && !decide (2 ≤ T2 - a8.i ∧ (T2 - a8.i) % 2 = 0))))
                  case first =>
                    as_aux_lemma =>
                      have HO := Lib.hid (rover_any w8 a8 HSa8.out.1)
                      cases ho : a8.over with
                      | true =>
                        rw [ho] at HO
                        have HG := Lib.hid (show false = (!a8.over && !decide (2 ≤ T2 - a8.i ∧ (T2 - a8.i) % 2 = 0)) by rw [ho]; rfl)
                        clear ho
                        go_wp2_with fail
                        refine HO.out.mono ?_
                        rintro en w9 ⟨rfl, h9⟩
                        obtain rfl := h9.symm
                        clear HO h9
                        go_wp2_with fail
                        go_meet
                        exact ⟨false, rfl, Lib.hid ⟨rfl, by rw [← HG.out]⟩⟩
                      | false =>
                        rw [ho] at HO
                        have HOV := Lib.hid ho
                        clear ho
                        obtain ⟨i, hi⟩ : ∃ i, a8.i = i := ⟨_, rfl⟩
                        obtain ⟨D, hD⟩ : ∃ D, T2 - i = D := ⟨_, rfl⟩
                        have ci : w8.cell? ⟨p, 1, none⟩ = some (.int .i64 (i : Int)) := by rw [← hi]; exact cell_of_block HSa8.out.1.at_ 1
                        have hge : i ≤ T2 := by have := Ga8.out; omega
                        have hTb := BT2.out
                        have f1 : IntKind.i64.wrap ((T2 : Int) - (i : Int)) = (D : Int) := by rw [wrap_in] <;> omega
                        have Hf1 := Lib.hid f1
                        clear f1
                        have HDD := Lib.hid (show T2 - a8.i = D by omega)
                        clear hge hTb hi hD
                        obtain ⟨M, hM⟩ : ∃ M, D % 2 = M := ⟨_, rfl⟩
                        have f2 : (D : Int).tmod 2 = (M : Int) := by rw [Int.tmod_eq_emod_of_nonneg (by omega)]; omega
                        have Hf2 := Lib.hid f2
                        clear f2
                        by_cases hq : D < 2
                        · skip
                          have f9 : decide ((D : Int) < 2) = true := decide_eq_true (by omega)
                          have HG := Lib.hid (show true = (!a8.over && !decide (2 ≤ T2 - a8.i ∧ (T2 - a8.i) % 2 = 0)) by rw [HOV.out, HDD.out, decide_eq_false (show ¬ (2 ≤ D ∧ D % 2 = 0) by omega)]; rfl)
                          clear hq
                          have f1 := Hf1.out
                          have f2 := Hf2.out
                          go_wp2_with fail
                          refine HO.out.mono ?_
                          rintro en w9 ⟨rfl, h9⟩
                          obtain rfl := h9.symm
                          clear HO h9
                          go_wp2_with fail
                          go_meet
                          exact ⟨true, rfl, Lib.hid ⟨rfl, by rw [← HG.out]⟩⟩
                        · skip
                          by_cases hq1 : M = 0
                          · skip
                            have f9 : decide ((D : Int) < 2) = false := decide_eq_false (by omega)
                            have f8 : ((M : Int) != 0) = false := by simp; omega
                            have HG := Lib.hid (show false = (!a8.over && !decide (2 ≤ T2 - a8.i ∧ (T2 - a8.i) % 2 = 0)) by rw [HOV.out, HDD.out, decide_eq_true (show 2 ≤ D ∧ D % 2 = 0 by omega)]; rfl)
                            clear hq hq1
                            have f1 := Hf1.out
                            have f2 := Hf2.out
                            go_wp2_with fail
                            refine HO.out.mono ?_
                            rintro en w9 ⟨rfl, h9⟩
                            obtain rfl := h9.symm
                            clear HO h9
                            go_wp2_with fail
                            go_meet
                            exact ⟨false, rfl, Lib.hid ⟨rfl, by rw [← HG.out]⟩⟩
                          · skip
                            have f9 : decide ((D : Int) < 2) = false := decide_eq_false (by omega)
                            have f8 : ((M : Int) != 0) = true := by simp; omega
                            have HG := Lib.hid (show true = (!a8.over && !decide (2 ≤ T2 - a8.i ∧ (T2 - a8.i) % 2 = 0)) by rw [HOV.out, HDD.out, decide_eq_false (show ¬ (2 ≤ D ∧ D % 2 = 0) by omega)]; rfl)
                            clear hq hq1
                            have f1 := Hf1.out
                            have f2 := Hf2.out
                            go_wp2_with fail
                            refine HO.out.mono ?_
                            rintro en w9 ⟨rfl, h9⟩
                            obtain rfl := h9.symm
                            clear HO h9
                            go_wp2_with fail
                            go_meet
                            exact ⟨true, rfl, Lib.hid ⟨rfl, by rw [← HG.out]⟩⟩
                  case rest =>
                    as_aux_lemma =>
                      obtain ⟨d, rfl, HD⟩ := hcut
                      obtain rfl := HD.out.1.symm
                      have HD2 := Lib.hid HD.out.2
                      clear HD
                      go_upto_if 75 with fail
                      go_cut [] (fun wx => Hid (RkAt bs wx p A m c a9 ∧ Keeps [p] w wx))
                      case first =>
                        as_aux_lemma =>
                          cases d with
                          | true =>
                            have x3 : w8.cell? ⟨p, 3, none⟩ = some (.bool a8.wr) := cell_of_block HSa8.out.1.at_ 3
                            have z3 : w8.frozen? ⟨p, 3, none⟩ = false := free_of_block HSa8.out.1.at_ 3
                            obtain ⟨b0, hb0⟩ : ∃ b, a8.wr = b := ⟨_, rfl⟩
                            rw [hb0] at x3
                            clear hb0
                            have HF := Lib.hid (show RkAt bs (w8.setCell ⟨p, 3, none⟩ (.bool true)) p A m c a9 ∧ Keeps [p] w (w8.setCell ⟨p, 3, none⟩ (.bool true)) from ⟨by rw [← Qa9.out]; exact HSa8.out.1.must HD2.out, HSa8.out.2.trans (Keeps.setCell w8 ⟨p, 3, none⟩ _)⟩)
                            go_wp2_with fail
                            go_meet
                            exact HF
                          | false =>
                            have HF := Lib.hid (show RkAt bs w8 p A m c a9 ∧ Keeps [p] w w8 from ⟨by rw [← Qa9.out]; exact HSa8.out.1.mustn HD2.out, HSa8.out.2⟩)
                            go_wp2_with fail
                            go_meet
                            exact HF
                      case rest =>
                        as_aux_lemma =>
                          have HSa9 := hcut
                          clear HD2 HSa8
                          have HP := Lib.hid (rpass_any wc a9 HSa9.out.1 T2 E)
                          rw [Qa10.out] at HP
                          go_wp2_with fail
                          refine HP.out.mono ?_
                          rintro en w10 ⟨rfl, h1, k1⟩
                          have HSa10 := Lib.hid (And.intro h1 (HSa9.out.2.trans k1))
                          clear h1 k1 HP HSa9
                          have HC := Lib.hid (rcount_any w10 a10 HSa10.out.1 1 E (by omega) BE.out)
                          rw [Qa11.out] at HC
                          dsimp only at HC
                          go_wp2_with fail
                          refine HC.out.mono ?_
                          rintro en w11 ⟨rfl, h1, k1, hT⟩
                          have HSa11 := Lib.hid (And.intro h1 (HSa10.out.2.trans k1))
                          have BT3 := Lib.hid hT
                          clear h1 k1 hT HC HSa10
                          go_upto_region 14 with fail
                          go_cut [97] (fun bv wx => ∃ d : Bool, bv = .bool d ∧ Hid (wx = w11 ∧ d = (!a11.over && !decide (1 ≤ T3 - a11.i))))
                          case first =>
                            as_aux_lemma =>
                              have HO := Lib.hid (rover_any w11 a11 HSa11.out.1)
                              cases ho : a11.over with
                              | true =>
                                rw [ho] at HO
                                have HG := Lib.hid (show false = (!a11.over && !decide (1 ≤ T3 - a11.i)) by rw [ho]; rfl)
                                clear ho
                                go_wp2_with fail
                                refine HO.out.mono ?_
                                rintro en w9 ⟨rfl, h9⟩
                                obtain rfl := h9.symm
                                clear HO h9
                                go_wp2_with fail
                                go_meet
                                exact ⟨false, rfl, Lib.hid ⟨rfl, by rw [← HG.out]⟩⟩
                              | false =>
                                rw [ho] at HO
                                have HOV := Lib.hid ho
                                clear ho
                                obtain ⟨i, hi⟩ : ∃ i, a11.i = i := ⟨_, rfl⟩
                                obtain ⟨D, hD⟩ : ∃ D, T3 - i = D := ⟨_, rfl⟩
                                have ci : w11.cell? ⟨p, 1, none⟩ = some (.int .i64 (i : Int)) := by rw [← hi]; exact cell_of_block HSa11.out.1.at_ 1
                                have hge : i ≤ T3 := by have := Ga11.out; omega
                                have hTb := BT3.out
                                have f1 : IntKind.i64.wrap ((T3 : Int) - (i : Int)) = (D : Int) := by rw [wrap_in] <;> omega
                                have Hf1 := Lib.hid f1
                                clear f1
                                have HDD := Lib.hid (show T3 - a11.i = D by omega)
                                clear hge hTb hi hD
                                by_cases hq : D < 1
                                · skip
                                  have f9 : decide ((D : Int) < 1) = true := decide_eq_true (by omega)
                                  have HG := Lib.hid (show true = (!a11.over && !decide (1 ≤ T3 - a11.i)) by rw [HOV.out, HDD.out, decide_eq_false (show ¬ 1 ≤ D by omega)]; rfl)
                                  clear hq
                                  have f1 := Hf1.out
                                  go_wp2_with fail
                                  refine HO.out.mono ?_
                                  rintro en w9 ⟨rfl, h9⟩
                                  obtain rfl := h9.symm
                                  clear HO h9
                                  go_wp2_with fail
                                  go_meet
                                  exact ⟨true, rfl, Lib.hid ⟨rfl, by rw [← HG.out]⟩⟩
                                · skip
                                  have f9 : decide ((D : Int) < 1) = false := decide_eq_false (by omega)
                                  have HG := Lib.hid (show false = (!a11.over && !decide (1 ≤ T3 - a11.i)) by rw [HOV.out, HDD.out, decide_eq_true (show 1 ≤ D by omega)]; rfl)
                                  clear hq
                                  have f1 := Hf1.out
                                  go_wp2_with fail
                                  refine HO.out.mono ?_
                                  rintro en w9 ⟨rfl, h9⟩
                                  obtain rfl := h9.symm
                                  clear HO h9
                                  go_wp2_with fail
                                  go_meet
                                  exact ⟨false, rfl, Lib.hid ⟨rfl, by rw [← HG.out]⟩⟩
                          case rest =>
                            as_aux_lemma =>
                              obtain ⟨d, rfl, HD⟩ := hcut
                              obtain rfl := HD.out.1.symm
                              have HD2 := Lib.hid HD.out.2
                              clear HD
                              go_upto_if 97 with fail
                              go_cut [] (fun wx => Hid (RkAt bs wx p A m c a12 ∧ Keeps [p] w wx))
                              case first =>
                                as_aux_lemma =>
                                  cases d with
                                  | true =>
                                    have x3 : w11.cell? ⟨p, 3, none⟩ = some (.bool a11.wr) := cell_of_block HSa11.out.1.at_ 3
                                    have z3 : w11.frozen? ⟨p, 3, none⟩ = false := free_of_block HSa11.out.1.at_ 3
                                    obtain ⟨b0, hb0⟩ : ∃ b, a11.wr = b := ⟨_, rfl⟩
                                    rw [hb0] at x3
                                    clear hb0
                                    have HF := Lib.hid (show RkAt bs (w11.setCell ⟨p, 3, none⟩ (.bool true)) p A m c a12 ∧ Keeps [p] w (w11.setCell ⟨p, 3, none⟩ (.bool true)) from ⟨by rw [← Qa12.out]; exact HSa11.out.1.must HD2.out, HSa11.out.2.trans (Keeps.setCell w11 ⟨p, 3, none⟩ _)⟩)
                                    go_wp2_with fail
                                    go_meet
                                    exact HF
                                  | false =>
                                    have HF := Lib.hid (show RkAt bs w11 p A m c a12 ∧ Keeps [p] w w11 from ⟨by rw [← Qa12.out]; exact HSa11.out.1.mustn HD2.out, HSa11.out.2⟩)
                                    go_wp2_with fail
                                    go_meet
                                    exact HF
                              case rest =>
                                as_aux_lemma =>
                                  have HSa12 := hcut
                                  clear HD2 HSa11
                                  have HP := Lib.hid (rpass_any wc a12 HSa12.out.1 T3 E)
                                  rw [Qa13.out] at HP
                                  go_wp2_with fail
                                  refine HP.out.mono ?_
                                  rintro en w13 ⟨rfl, h1, k1⟩
                                  have HSa13 := Lib.hid (And.intro h1 (HSa12.out.2.trans k1))
                                  clear h1 k1 HP HSa12
                                  have HO := Lib.hid (rover_any w13 a13 HSa13.out.1)
                                  cases ho : a13.over with
                                  | true =>
                                    rw [ho] at HO
                                    have HF := Lib.hid (show RkAt bs w13 p A m c (helloR bs) by rw [HEL.out, if_pos (.inl ho)]; exact HSa13.out.1)
                                    clear ho
                                    go_wp2_with fail
                                    refine HO.out.mono ?_
                                    rintro en w9 ⟨rfl, h9⟩
                                    obtain rfl := h9.symm
                                    clear HO h9
                                    go_wp2_with fail
                                    ((try simp only [Exit.inBlock, Exit.then]); refine bodyPost_ret (results_none rfl _ _ _) rfl ?_)
                                    exact ⟨rfl, HF.out, HSa13.out.2⟩
                                  | false =>
                                    rw [ho] at HO
                                    have HOV := Lib.hid ho
                                    clear ho
                                    obtain ⟨i, hi⟩ : ∃ i, a13.i = i := ⟨_, rfl⟩
                                    have ci : w13.cell? ⟨p, 1, none⟩ = some (.int .i64 (i : Int)) := by rw [← hi]; exact cell_of_block HSa13.out.1.at_ 1
                                    by_cases hie : i = E
                                    · skip
                                      have HF := Lib.hid (show RkAt bs w13 p A m c (helloR bs) by rw [HEL.out, if_pos (.inr (by rw [hi]; exact hie))]; exact HSa13.out.1)
                                      subst hie
                                      clear hi
                                      go_wp2_with fail
                                      refine HO.out.mono ?_
                                      rintro en w9 ⟨rfl, h9⟩
                                      obtain rfl := h9.symm
                                      clear HO h9
                                      go_wp2_with fail
                                      ((try simp only [Exit.inBlock, Exit.then]); refine bodyPost_ret (results_none rfl _ _ _) rfl ?_)
                                      exact ⟨rfl, HF.out, HSa13.out.2⟩
                                    · skip
                                      as_aux_lemma =>
                                        have hne : ((i : Int) == (E : Int)) = false := by rw [beq_eq_false_iff_ne]; omega
                                        have HEQ := Lib.hid (show extsR bs (E - a15.i) E false a15 = helloR bs by rw [HEL.out, if_neg (by rintro (h | h); rw [HOV.out] at h; cases h; exact hie (by rw [← hi]; exact h))])
                                        clear hi hie
                                        go_wp2_with fail
                                        refine HO.out.mono ?_
                                        rintro en w9 ⟨rfl, h9⟩
                                        obtain rfl := h9.symm
                                        clear HO h9
                                        go_wp2_with fail
                                        have HC := Lib.hid (rcount_any w13 a13 HSa13.out.1 2 E (by omega) BE.out)
                                        rw [Qa14.out] at HC
                                        dsimp only at HC
                                        refine HC.out.mono ?_
                                        rintro en w14 ⟨rfl, h1, k1, hT⟩
                                        have HSa14 := Lib.hid (And.intro h1 (HSa13.out.2.trans k1))
                                        have BT4 := Lib.hid hT
                                        clear h1 k1 hT HC HSa13 ci hne
                                        go_upto_region 19 with fail
                                        go_cut [125] (fun bv wx => ∃ d : Bool, bv = .bool d ∧ Hid (wx = w14 ∧ d = (!a14.over && !decide (T4 = E))))
                                        case first =>
                                          as_aux_lemma =>
                                            have HO := Lib.hid (rover_any w14 a14 HSa14.out.1)
                                            cases ho : a14.over with
                                            | true =>
                                              rw [ho] at HO
                                              have HG := Lib.hid (show false = (!a14.over && !decide (T4 = E)) by rw [ho]; rfl)
                                              clear ho
                                              go_wp2_with fail
                                              refine HO.out.mono ?_
                                              rintro en w9 ⟨rfl, h9⟩
                                              obtain rfl := h9.symm
                                              clear HO h9
                                              go_wp2_with fail
                                              go_meet
                                              exact ⟨false, rfl, Lib.hid ⟨rfl, by rw [← HG.out]⟩⟩
                                            | false =>
                                              rw [ho] at HO
                                              have HOV := Lib.hid ho
                                              clear ho
                                              skip
                                              by_cases hq : T4 = E
                                              · skip
                                                have f9 : ((T4 : Int) != (E : Int)) = false := by simp; omega
                                                have HG := Lib.hid (show false = (!a14.over && !decide (T4 = E)) by rw [HOV.out, decide_eq_true hq]; rfl)
                                                clear hq
                                                go_wp2_with fail
                                                refine HO.out.mono ?_
                                                rintro en w9 ⟨rfl, h9⟩
                                                obtain rfl := h9.symm
                                                clear HO h9
                                                go_wp2_with fail
                                                go_meet
                                                exact ⟨false, rfl, Lib.hid ⟨rfl, by rw [← HG.out]⟩⟩
                                              · skip
                                                have f9 : ((T4 : Int) != (E : Int)) = true := by simp; omega
                                                have HG := Lib.hid (show true = (!a14.over && !decide (T4 = E)) by rw [HOV.out, decide_eq_false hq]; rfl)
                                                clear hq
                                                go_wp2_with fail
                                                refine HO.out.mono ?_
                                                rintro en w9 ⟨rfl, h9⟩
                                                obtain rfl := h9.symm
                                                clear HO h9
                                                go_wp2_with fail
                                                go_meet
                                                exact ⟨true, rfl, Lib.hid ⟨rfl, by rw [← HG.out]⟩⟩
                                        case rest =>
                                          as_aux_lemma =>
                                            obtain ⟨d, rfl, HD⟩ := hcut
                                            obtain rfl := HD.out.1.symm
                                            have HD2 := Lib.hid HD.out.2
                                            clear HD
                                            go_upto_if 125 with fail
                                            go_cut [] (fun wx => Hid (RkAt bs wx p A m c a15 ∧ Keeps [p] w wx))
                                            case first =>
                                              as_aux_lemma =>
                                                cases d with
                                                | true =>
                                                  have x3 : w14.cell? ⟨p, 3, none⟩ = some (.bool a14.wr) := cell_of_block HSa14.out.1.at_ 3
                                                  have z3 : w14.frozen? ⟨p, 3, none⟩ = false := free_of_block HSa14.out.1.at_ 3
                                                  obtain ⟨b0, hb0⟩ : ∃ b, a14.wr = b := ⟨_, rfl⟩
                                                  rw [hb0] at x3
                                                  clear hb0
                                                  have HF := Lib.hid (show RkAt bs (w14.setCell ⟨p, 3, none⟩ (.bool true)) p A m c a15 ∧ Keeps [p] w (w14.setCell ⟨p, 3, none⟩ (.bool true)) from ⟨by rw [← Qa15.out]; exact HSa14.out.1.must HD2.out, HSa14.out.2.trans (Keeps.setCell w14 ⟨p, 3, none⟩ _)⟩)
                                                  go_wp2_with fail
                                                  go_meet
                                                  exact HF
                                                | false =>
                                                  have HF := Lib.hid (show RkAt bs w14 p A m c a15 ∧ Keeps [p] w w14 from ⟨by rw [← Qa15.out]; exact HSa14.out.1.mustn HD2.out, HSa14.out.2⟩)
                                                  go_wp2_with fail
                                                  go_meet
                                                  exact HF
                                            case rest =>
                                              as_aux_lemma =>
                                                have HSa15 := hcut
                                                clear HD2 HSa14
                                                obtain ⟨R, hR⟩ : ∃ R, helloR bs = R := ⟨_, rfl⟩
                                                have HRR := Lib.hid hR
                                                rw [hR] at HEQ
                                                obtain ⟨k0, hk0⟩ : ∃ k0, E - a15.i = k0 := ⟨_, rfl⟩
                                                rw [hk0] at HEQ
                                                have HK0 := Lib.hid (show E - a15.i ≤ k0 by omega)
                                                clear hk0 hR
                                                go_wp2_with fail
                                                go_loopg [2, 4, 5, 6] (k0 + 1) (fun g _ _ sv _ wx => ∃ (k : Nat) (t : RS) (seen : Bool), g = k + 1 ∧ sv = .bool seen ∧ Hid (RkAt bs wx p A m c t ∧ extsR bs k E seen t = R ∧ (t.over = true ∨ E - t.i ≤ k) ∧ Keeps [p] w wx))
                                                case atStart => exact ⟨k0, a15, false, rfl, rfl, Lib.hid ⟨HSa15.out.1, HEQ.out, .inr HK0.out, HSa15.out.2⟩⟩
                                                case round =>
                                                  as_aux_lemma =>
                                                    obtain ⟨k, t, seen, hg, rfl, HI⟩ := hrel
                                                    subst hg
                                                    have HO := Lib.hid (rover_any wr t HI.out.1)
                                                    cases ho : t.over with
                                                    | true =>
                                                      rw [ho] at HO
                                                      have HF := Lib.hid (show RkAt bs wr p A m c (helloR bs) by rw [HRR.out, ← HI.out.2.1, extsR_end (.inl ho)]; exact HI.out.1)
                                                      clear ho
                                                      go_wp2_with fail
                                                      refine HO.out.mono ?_
                                                      rintro en w9 ⟨rfl, h9⟩
                                                      obtain rfl := h9.symm
                                                      clear HO h9
                                                      go_wp2_with fail
                                                      go_end0
                                                      exact ⟨rfl, HF.out, HI.out.2.2.2⟩
                                                    | false =>
                                                      rw [ho] at HO
                                                      obtain ⟨i0, hi0⟩ : ∃ i0, t.i = i0 := ⟨_, rfl⟩
                                                      obtain ⟨nd0, hnd⟩ : ∃ b, t.nd = b := ⟨_, rfl⟩
                                                      have ci : wr.cell? ⟨p, 1, none⟩ = some (.int .i64 (i0 : Int)) := by rw [← hi0]; exact cell_of_block HI.out.1.at_ 1
                                                      have cn : wr.cell? ⟨p, 5, none⟩ = some (.bool nd0) := by rw [← hnd]; exact cell_of_block HI.out.1.at_ 5
                                                      by_cases hie : E ≤ i0
                                                      · skip
                                                        have f1 : ¬ (i0 : Int) < (E : Int) := by omega
                                                        have HF := Lib.hid (show RkAt bs wr p A m c (helloR bs) by rw [HRR.out, ← HI.out.2.1, extsR_end (.inr (.inl (by omega)))]; exact HI.out.1)
                                                        clear ho hie hi0 hnd
                                                        go_wp2_with fail
                                                        refine HO.out.mono ?_
                                                        rintro en w9 ⟨rfl, h9⟩
                                                        obtain rfl := h9.symm
                                                        clear HO h9
                                                        go_wp2_with fail
                                                        go_end0
                                                        exact ⟨rfl, HF.out, HI.out.2.2.2⟩
                                                      · skip
                                                        have f1 : (i0 : Int) < (E : Int) := by omega
                                                        cases nd0 with
                                                        | true =>
                                                          have HF := Lib.hid (show RkAt bs wr p A m c (helloR bs) by rw [HRR.out, ← HI.out.2.1, extsR_end (.inr (.inr hnd))]; exact HI.out.1)
                                                          clear ho hie hi0 hnd
                                                          go_wp2_with fail
                                                          refine HO.out.mono ?_
                                                          rintro en w9 ⟨rfl, h9⟩
                                                          obtain rfl := h9.symm
                                                          clear HO h9
                                                          go_wp2_with fail
                                                          go_end0
                                                          exact ⟨rfl, HF.out, HI.out.2.2.2⟩
                                                        | false =>
                                                          obtain ⟨k', hk'⟩ : ∃ k', k = k' + 1 := by
                                                            rcases HI.out.2.2.1 with h | h
                                                            · rw [ho] at h; cases h
                                                            · exact ⟨k - 1, by omega⟩
                                                          subst hk'
                                                          have hstep : extsR bs k' E (extR bs E seen t).1 (extR bs E seen t).2 = R := by
                                                            have := HI.out.2.1
                                                            rw [extsR, if_neg (by rintro (h | h | h); rw [ho] at h; cases h; omega; rw [hnd] at h; cases h)] at this
                                                            exact this
                                                          have hprog : (extR bs E seen t).2.over = true ∨ E - (extR bs E seen t).2.i ≤ k' := by
                                                            cases hx : (extR bs E seen t).2.over with
                                                            | true => exact .inl rfl
                                                            | false =>
                                                              have h5 := extR_on ho hx
                                                              rcases HI.out.2.2.1 with h | h
                                                              · rw [ho] at h; cases h
                                                              · exact .inr (by omega)
                                                          have HX := Lib.hid (And.intro hstep hprog)
                                                          have HN := Lib.hid (rnumber_any wr t HI.out.1 2 E (by omega) BE.out)
                                                          obtain ⟨⟨kind, b1⟩, hy1⟩ : ∃ y, numR bs 2 E t = y := ⟨_, rfl⟩
                                                          obtain ⟨⟨T, b2⟩, hy2⟩ : ∃ y, cntR bs 2 E b1 = y := ⟨_, rfl⟩
                                                          have Qb2 := Lib.hid hy2
                                                          have HEX := Lib.hid (extR_eq (seen := seen) hy1 hy2)
                                                          rw [hy1] at HN
                                                          dsimp only at HN
                                                          clear ho hie hi0 hnd hstep hprog hy1 hy2
                                                          go_wp2_with fail
                                                          refine HO.out.mono ?_
                                                          rintro en w9 ⟨rfl, h9⟩
                                                          obtain rfl := h9.symm
                                                          clear HO h9
                                                          go_wp2_with fail
                                                          refine HN.out.mono ?_
                                                          rintro en x1 ⟨rfl, h1, k1⟩
                                                          have HSb1 := Lib.hid (And.intro h1 (HI.out.2.2.2.trans k1))
                                                          clear h1 k1 HN ci cn f1
                                                          have HC := Lib.hid (rcount_any x1 b1 HSb1.out.1 2 E (by omega) BE.out)
                                                          rw [Qb2.out] at HC
                                                          dsimp only at HC
                                                          go_wp2_with fail
                                                          refine HC.out.mono ?_
                                                          rintro en x2 ⟨rfl, h1, k1, hT⟩
                                                          have HSb2 := Lib.hid (And.intro h1 (HSb1.out.2.trans k1))
                                                          have BT := Lib.hid hT
                                                          clear h1 k1 hT HC HSb1
                                                          have HO := Lib.hid (rover_any x2 b2 HSb2.out.1)
                                                          cases ho2 : b2.over with
                                                          | true =>
                                                            rw [ho2] at HO
                                                            have HF := Lib.hid (show RkAt bs x2 p A m c (helloR bs) by
                                                              have h := HX.out.1
                                                              rw [HEX.out, if_pos ho2] at h
                                                              dsimp only at h
                                                              rw [extsR_end (.inl ho2)] at h
                                                              rw [HRR.out, ← h]; exact HSb2.out.1)
                                                            clear ho2
                                                            go_wp2_with fail
                                                            refine HO.out.mono ?_
                                                            rintro en w9 ⟨rfl, h9⟩
                                                            obtain rfl := h9.symm
                                                            clear HO h9
                                                            go_wp2_with fail
                                                            ((try simp only [Exit.inBlock, Exit.then]); refine bodyPost_ret (results_none rfl _ _ _) rfl ?_)
                                                            exact ⟨rfl, HF.out, HSb2.out.2⟩
                                                          | false =>
                                                            rw [ho2] at HO
                                                            by_cases hk : kind = 0
                                                            · skip
                                                              subst hk
                                                              cases seen with
                                                              | true =>
                                                                have HF := Lib.hid (show RkAt bs (x2.setCell ⟨p, 3, none⟩ (.bool true)) p A m c (helloR bs) by
                                                                  have h := HX.out.1
                                                                  rw [HEX.out, if_neg (by simp [ho2]), if_neg (by simp), if_pos rfl] at h
                                                                  dsimp only at h
                                                                  rw [extsR_end (.inl (by simp [RS.over, RS.bad]))] at h
                                                                  rw [HRR.out, ← h]; exact HSb2.out.1.bad)
                                                                have x3 : x2.cell? ⟨p, 3, none⟩ = some (.bool b2.wr) := cell_of_block HSb2.out.1.at_ 3
                                                                have z3 : x2.frozen? ⟨p, 3, none⟩ = false := free_of_block HSb2.out.1.at_ 3
                                                                obtain ⟨b0, hb0⟩ : ∃ b, b2.wr = b := ⟨_, rfl⟩
                                                                rw [hb0] at x3
                                                                clear hb0 ho2
                                                                go_wp2_with fail
                                                                refine HO.out.mono ?_
                                                                rintro en w9 ⟨rfl, h9⟩
                                                                obtain rfl := h9.symm
                                                                clear HO h9
                                                                go_wp2_with fail
                                                                ((try simp only [Exit.inBlock, Exit.then]); refine bodyPost_ret (results_none rfl _ _ _) rfl ?_)
                                                                exact ⟨rfl, HF.out, HSb2.out.2.trans (Keeps.setCell _ ⟨p, 3, none⟩ _)⟩
                                                              | false =>
                                                                obtain ⟨⟨L, b3⟩, hy3⟩ : ∃ y, cntR bs 2 T b2 = y := ⟨_, rfl⟩
                                                                obtain ⟨b4, hy4⟩ : ∃ y, b3.must (decide (L = T) && !decide (L = b3.i)) = y := ⟨_, rfl⟩
                                                                obtain ⟨b5, hy5⟩ : ∃ y, namesR bs (T - b4.i) T b4 = y := ⟨_, rfl⟩
                                                                have HFX := Lib.hid (show extsR bs k' E true b5 = R ∧ (b5.over = true ∨ E - b5.i ≤ k') by
                                                                  have h := HX.out
                                                                  rw [HEX.out, if_neg (by simp [ho2]), if_neg (by simp), if_neg (by simp), hy3] at h
                                                                  dsimp only at h
                                                                  rw [hy4, hy5] at h
                                                                  exact h)
                                                                have Qb3 := Lib.hid hy3
                                                                have Qb4 := Lib.hid hy4
                                                                have Qb5 := Lib.hid hy5
                                                                clear hy3 hy4 hy5 ho2 HX HEX
                                                                go_wp2_with fail
                                                                refine HO.out.mono ?_
                                                                rintro en w9 ⟨rfl, h9⟩
                                                                obtain rfl := h9.symm
                                                                clear HO h9
                                                                have HC := Lib.hid (rcount_any x2 b2 HSb2.out.1 2 T (by omega) BT.out)
                                                                rw [Qb3.out] at HC
                                                                dsimp only at HC
                                                                go_wp2_with fail
                                                                refine HC.out.mono ?_
                                                                rintro en x3w ⟨rfl, h1, k1, hT⟩
                                                                have HSb3 := Lib.hid (And.intro h1 (HSb2.out.2.trans k1))
                                                                have BL := Lib.hid hT
                                                                clear h1 k1 hT HC HSb2
                                                                go_upto_region 32 with fail
                                                                go_cut [183] (fun bv wx => ∃ d : Bool, bv = .bool d ∧ Hid (wx = x3w ∧ d = (!b3.over && !(decide (L = T) && !decide (L = b3.i)))))
                                                                case first =>
                                                                  as_aux_lemma =>
                                                                    have HO := Lib.hid (rover_any x3w b3 HSb3.out.1)
                                                                    cases ho : b3.over with
                                                                    | true =>
                                                                      rw [ho] at HO
                                                                      have HG := Lib.hid (show false = (!b3.over && !(decide (L = T) && !decide (L = b3.i))) by rw [ho]; rfl)
                                                                      clear ho
                                                                      go_wp2_with fail
                                                                      refine HO.out.mono ?_
                                                                      rintro en w9 ⟨rfl, h9⟩
                                                                      obtain rfl := h9.symm
                                                                      clear HO h9
                                                                      go_wp2_with fail
                                                                      go_meet
                                                                      exact ⟨false, rfl, Lib.hid ⟨rfl, by rw [← HG.out]⟩⟩
                                                                    | false =>
                                                                      rw [ho] at HO
                                                                      have HOV := Lib.hid ho
                                                                      clear ho
                                                                      obtain ⟨i, hi⟩ : ∃ i, b3.i = i := ⟨_, rfl⟩
                                                                      have ci : x3w.cell? ⟨p, 1, none⟩ = some (.int .i64 (i : Int)) := by rw [← hi]; exact cell_of_block HSb3.out.1.at_ 1
                                                                      have HII := Lib.hid hi
                                                                      clear hi
                                                                      by_cases hq : L = T
                                                                      · skip
                                                                        by_cases hq1 : L = i
                                                                        · skip
                                                                          have f9 : ((L : Int) != (T : Int)) = false := by simp; omega
                                                                          have f8 : ((L : Int) == (i : Int)) = true := by simp; omega
                                                                          have HG := Lib.hid (show true = (!b3.over && !(decide (L = T) && !decide (L = b3.i))) by rw [HOV.out, HII.out, decide_eq_true hq, decide_eq_true hq1]; rfl)
                                                                          clear hq hq1
                                                                          go_wp2_with fail
                                                                          refine HO.out.mono ?_
                                                                          rintro en w9 ⟨rfl, h9⟩
                                                                          obtain rfl := h9.symm
                                                                          clear HO h9
                                                                          go_wp2_with fail
                                                                          go_meet
                                                                          exact ⟨true, rfl, Lib.hid ⟨rfl, by rw [← HG.out]⟩⟩
                                                                        · skip
                                                                          have f9 : ((L : Int) != (T : Int)) = false := by simp; omega
                                                                          have f8 : ((L : Int) == (i : Int)) = false := by simp; omega
                                                                          have HG := Lib.hid (show false = (!b3.over && !(decide (L = T) && !decide (L = b3.i))) by rw [HOV.out, HII.out, decide_eq_true hq, decide_eq_false hq1]; rfl)
                                                                          clear hq hq1
                                                                          go_wp2_with fail
                                                                          refine HO.out.mono ?_
                                                                          rintro en w9 ⟨rfl, h9⟩
                                                                          obtain rfl := h9.symm
                                                                          clear HO h9
                                                                          go_wp2_with fail
                                                                          go_meet
                                                                          exact ⟨false, rfl, Lib.hid ⟨rfl, by rw [← HG.out]⟩⟩
                                                                      · skip
                                                                        have f9 : ((L : Int) != (T : Int)) = true := by simp; omega
                                                                        have HG := Lib.hid (show true = (!b3.over && !(decide (L = T) && !decide (L = b3.i))) by rw [HOV.out, decide_eq_false hq]; rfl)
                                                                        clear hq
                                                                        go_wp2_with fail
                                                                        refine HO.out.mono ?_
                                                                        rintro en w9 ⟨rfl, h9⟩
                                                                        obtain rfl := h9.symm
                                                                        clear HO h9
                                                                        go_wp2_with fail
                                                                        go_meet
                                                                        exact ⟨true, rfl, Lib.hid ⟨rfl, by rw [← HG.out]⟩⟩
                                                                case rest =>
                                                                  as_aux_lemma =>
                                                                    obtain ⟨d, rfl, HD⟩ := hcut
                                                                    obtain rfl := HD.out.1.symm
                                                                    have HD2 := Lib.hid HD.out.2
                                                                    clear HD
                                                                    go_upto_if 183 with fail
                                                                    go_cut [] (fun wx => Hid (RkAt bs wx p A m c b4 ∧ Keeps [p] w wx))
                                                                    case first =>
                                                                      as_aux_lemma =>
                                                                        cases d with
                                                                        | true =>
                                                                          have x3 : x3w.cell? ⟨p, 3, none⟩ = some (.bool b3.wr) := cell_of_block HSb3.out.1.at_ 3
                                                                          have z3 : x3w.frozen? ⟨p, 3, none⟩ = false := free_of_block HSb3.out.1.at_ 3
                                                                          obtain ⟨b0, hb0⟩ : ∃ b, b3.wr = b := ⟨_, rfl⟩
                                                                          rw [hb0] at x3
                                                                          clear hb0
                                                                          have HF := Lib.hid (show RkAt bs (x3w.setCell ⟨p, 3, none⟩ (.bool true)) p A m c b4 ∧ Keeps [p] w (x3w.setCell ⟨p, 3, none⟩ (.bool true)) from ⟨by rw [← Qb4.out]; exact HSb3.out.1.must HD2.out, HSb3.out.2.trans (Keeps.setCell x3w ⟨p, 3, none⟩ _)⟩)
                                                                          go_wp2_with fail
                                                                          go_meet
                                                                          exact HF
                                                                        | false =>
                                                                          have HF := Lib.hid (show RkAt bs x3w p A m c b4 ∧ Keeps [p] w x3w from ⟨by rw [← Qb4.out]; exact HSb3.out.1.mustn HD2.out, HSb3.out.2⟩)
                                                                          go_wp2_with fail
                                                                          go_meet
                                                                          exact HF
                                                                    case rest =>
                                                                      as_aux_lemma =>
                                                                        have HSb4 := hcut
                                                                        clear HD2 HSb3
                                                                        have HN := Lib.hid (rnames_any wc b4 HSb4.out.1 T BT.out)
                                                                        rw [Qb5.out] at HN
                                                                        go_wp2_with fail
                                                                        refine HN.out.mono ?_
                                                                        rintro en x5 ⟨rfl, h1, k1⟩
                                                                        have HSb5 := Lib.hid (And.intro h1 (HSb4.out.2.trans k1))
                                                                        clear h1 k1 HN
                                                                        go_wp2_with fail
                                                                        go_roundg (k' + 1)
                                                                        case measure => omega
                                                                        case rel => exact ⟨k', b5, true, rfl, rfl, Lib.hid ⟨HSb5.out.1, HFX.out.1, HFX.out.2, HSb5.out.2⟩⟩
                                                            · skip
                                                              have hkb : ((kind : Int) != 0) = true := by simp; omega
                                                              obtain ⟨b3, hy3⟩ : ∃ y, passR bs T E b2 = y := ⟨_, rfl⟩
                                                              have HFX := Lib.hid (show extsR bs k' E seen b3 = R ∧ (b3.over = true ∨ E - b3.i ≤ k') by
                                                                have h := HX.out
                                                                rw [HEX.out, if_neg (by simp [ho2]), if_pos hk, hy3] at h
                                                                exact h)
                                                              have HP := Lib.hid (rpass_any x2 b2 HSb2.out.1 T E)
                                                              rw [hy3] at HP
                                                              clear hy3 ho2 hk HX HEX
                                                              go_wp2_with fail
                                                              refine HO.out.mono ?_
                                                              rintro en w9 ⟨rfl, h9⟩
                                                              obtain rfl := h9.symm
                                                              clear HO h9
                                                              go_wp2_with fail
                                                              refine HP.out.mono ?_
                                                              rintro en x3w ⟨rfl, h1, k1⟩
                                                              have HSb3 := Lib.hid (And.intro h1 (HSb2.out.2.trans k1))
                                                              clear h1 k1 HP
                                                              go_wp2_with fail
                                                              go_roundg (k' + 1)
                                                              case measure => omega
                                                              case rel => exact ⟨k', b3, seen, rfl, rfl, Lib.hid ⟨HSb3.out.1, HFX.out.1, HFX.out.2, HSb3.out.2⟩⟩
end
end Go.Proofs.YtpoheemjdieogaaGreatDoor
