/-
  The walk of CookieClasses. Condition: the table of classes reads as laid.
-/
import Derived.Test.YtkmhekfpfmhebaaDoorCookieA
namespace Go.Proofs.YtkmhekfpfmhebaaDoor
open Go.RowKit

theorem szI_in {c : Int} (h : 0 ≤ c ∧ c ≤ 7) : szI c = tab.getD c.toNat 0 ∧ szE c = 0 := by unfold szI szE; rw [if_pos h, if_pos h]; exact ⟨rfl, rfl⟩
theorem szI_out {c : Int} (h : ¬ (0 ≤ c ∧ c ≤ 7)) : szI c = 0 ∧ szE c = 1 := by unfold szI szE; rw [if_neg h, if_neg h]; exact ⟨rfl, rfl⟩
theorem cls_cases (m : Int) : (m < 88 ∧ clsI m = 0 ∧ clsB m = false) ∨ (clsB m = true ∧ ∃ c : Nat, c < 8 ∧ clsI m = c ∧ tab.getD c 0 ≤ m ∧ (c = 7 ∨ m < tab.getD (c + 1) 0)) := by
  by_cases h : m < 88
  · exact .inl ⟨h, cls_none h⟩
  · refine .inr ⟨by unfold clsB; apply decide_eq_true; omega, ?_⟩
    by_cases h7 : 1460 ≤ m
    · exact ⟨7, by omega, by unfold clsI; rw [if_pos h7]; rfl, h7, .inl rfl⟩
    by_cases h6 : 1440 ≤ m
    · exact ⟨6, by omega, by unfold clsI; rw [if_neg h7, if_pos h6]; rfl, h6, .inr (by show m < 1460; omega)⟩
    by_cases h5 : 1360 ≤ m
    · exact ⟨5, by omega, by unfold clsI; rw [if_neg h7, if_neg h6, if_pos h5]; rfl, h5, .inr (by show m < 1440; omega)⟩
    by_cases h4 : 1220 ≤ m
    · exact ⟨4, by omega, by unfold clsI; rw [if_neg h7, if_neg h6, if_neg h5, if_pos h4]; rfl, h4, .inr (by show m < 1360; omega)⟩
    by_cases h3 : 1024 ≤ m
    · exact ⟨3, by omega, by unfold clsI; rw [if_neg h7, if_neg h6, if_neg h5, if_neg h4, if_pos h3]; rfl, h3, .inr (by show m < 1220; omega)⟩
    by_cases h2 : 536 ≤ m
    · exact ⟨2, by omega, by unfold clsI; rw [if_neg h7, if_neg h6, if_neg h5, if_neg h4, if_neg h3, if_pos h2]; rfl, h2, .inr (by show m < 1024; omega)⟩
    by_cases h1 : 216 ≤ m
    · exact ⟨1, by omega, by unfold clsI; rw [if_neg h7, if_neg h6, if_neg h5, if_neg h4, if_neg h3, if_neg h2, if_pos h1]; rfl, h1, .inr (by show m < 536; omega)⟩
    · exact ⟨0, by omega, by unfold clsI; rw [if_neg h7, if_neg h6, if_neg h5, if_neg h4, if_neg h3, if_neg h2, if_neg h1]; rfl, by show (88 : Int) ≤ m; omega, .inr (by show m < 216; omega)⟩

theorem tab_facts {c : Int} (h : 0 ≤ c ∧ c ≤ 7) : ∃ k : Int, szI c = k ∧ szE c = 0 ∧ 88 ≤ k ∧ k ≤ 1460 ∧ clsI k = c ∧ clsB k = true ∧ clsB (k - 1) = decide (c > 0) ∧ (c = 0 ∨ (0 < c ∧ clsI (k - 1) = c - 1)) := by
  have hs : c = 0 ∨ c = 1 ∨ c = 2 ∨ c = 3 ∨ c = 4 ∨ c = 5 ∨ c = 6 ∨ c = 7 := by omega
  rcases hs with rfl | rfl | rfl | rfl | rfl | rfl | rfl | rfl <;> exact ⟨_, rfl, rfl, by decide, by decide, by decide, by decide, by decide, by decide⟩

set_option maxHeartbeats 4000000 in
theorem classes_walk (w : World) (hL : Laid w) (m c : Int) (m0 : 0 ≤ m) (m1 : m ≤ 65535) (c0 : -9223372036854775808 ≤ c) (c1 : c ≤ 9223372036854775807) :
    Calls Tryd.prog 4 #[.int .u16 m, .int .i64 c] w fun e w' => e = .returned (.bool true) ∧ Keeps [] w w' := by
  have HL := Lib.hid hL
  have HC := Lib.hid (cls_cases m)
  clear hL
  go_enter Tryd.func4, Tryd.ntmps4
  go_wp2_with fail
  refine (class_any _ HL.out m m0 m1).mono ?_
  rintro e w1 ⟨rfl, rfl⟩
  have hst : 0 ≤ clsI m ∧ clsI m ≤ 7 := by unfold clsI; (repeat' split) <;> omega
  generalize hci : clsI m = a at *
  generalize hcb : clsB m = is at *
  obtain ⟨a0, a1⟩ := hst
  have HCI := Lib.hid hci
  have HCB := Lib.hid hcb
  clear hci hcb
  go_wp2_with fail
  refine (size_any _ HL.out a (by omega) (by omega)).mono ?_
  rintro e w1 ⟨rfl, rfl⟩
  obtain ⟨p1, p2⟩ := szI_in (c := a) ⟨a0, a1⟩
  rw [p2]
  generalize hn : szI a = n at *
  have HN := Lib.hid hn
  have P1 := Lib.hid p1
  clear hn p1 p2
  go_wp2_with fail
  refine (size_any _ HL.out (a + 1) (by omega) (by omega)).mono ?_
  rintro e w1 ⟨rfl, rfl⟩
  generalize hn2 : szI (a + 1) = n2 at *
  generalize he2 : szE (a + 1) = e2 at *
  have HN2 := Lib.hid hn2
  have HE2 := Lib.hid he2
  clear hn2 he2
  rcases HC.out with ⟨h1, h2, h3⟩ | ⟨h3, q, hq, h2, h4, h5⟩
  · have ha : a = 0 := h2
    have hi : is = false := h3
    subst ha hi
    clear h2 h3
    go_upto_region 6 with fail
    go_wp2_with fail
    refine (size_any _ HL.out c c0 c1).mono ?_
    rintro e w1 ⟨rfl, rfl⟩
    rcases Int.lt_or_le c 0 with hc | hc
    · obtain ⟨p1, p2⟩ := szI_out (c := c) (by omega)
      rw [p1, p2]
      clear p1 p2
      go_wp2_with fail
      refine (awake_any _ HL.out).mono ?_
      rintro e w2 ⟨rfl, k2⟩
      go_wp2_with fail
      go_ret
      exact ⟨rfl, k2⟩
    rcases Int.lt_or_le 7 c with hc7 | hc7
    · obtain ⟨p1, p2⟩ := szI_out (c := c) (by omega)
      rw [p1, p2]
      clear p1 p2
      go_wp2_with fail
      refine (awake_any _ HL.out).mono ?_
      rintro e w2 ⟨rfl, k2⟩
      go_wp2_with fail
      go_ret
      exact ⟨rfl, k2⟩
    obtain ⟨k, t1, t2, t3, t4, t5, t6, t7, t8⟩ := tab_facts (c := c) ⟨hc, hc7⟩
    rw [t1, t2]
    have T5 := Lib.hid t5
    have T6 := Lib.hid t6
    have T7 := Lib.hid t7
    have T8 := Lib.hid t8
    clear t1 t2 t5 t6 t7 t8
    go_wp2_with fail
    refine (class_any _ HL.out k (by omega) (by omega)).mono ?_
    rintro e w1 ⟨rfl, rfl⟩
    rw [T5.out, T6.out]
    go_wp2_with fail
    refine (class_any _ HL.out (k - 1) (by omega) (by omega)).mono ?_
    rintro e w1 ⟨rfl, rfl⟩
    rw [T7.out]
    rcases T8.out with h0 | ⟨h0, h1⟩
    · subst h0
      generalize clsI (k - 1) = z at *
      go_wp2_with fail
      refine (awake_any _ HL.out).mono ?_
      rintro e w2 ⟨rfl, k2⟩
      go_wp2_with fail
      go_ret
      exact ⟨rfl, k2⟩
    · rw [h1]
      have hd : (decide (c > 0)) = true := decide_eq_true h0
      have hz : (c == 0) = false := by simp; omega
      clear h1
      rw [hd]
      go_wp2_with fail
      refine (awake_any _ HL.out).mono ?_
      rintro e w2 ⟨rfl, k2⟩
      go_wp2_with fail
      go_ret
      exact ⟨by simp, k2⟩
  · have ha : a = q := h2
    have hi : is = true := h3
    have hnm : n ≤ m := by rw [P1.out, ha]; exact h4
    subst hi
    clear h2 h3 h4
    rcases h5 with h5 | h5
    · have he : e2 = 1 := by rw [← HE2.out, ha, h5]; rfl
      subst he
      clear h5 hq ha
      go_upto_region 6 with fail
      go_wp2_with fail
      refine (size_any _ HL.out c c0 c1).mono ?_
      rintro e w1 ⟨rfl, rfl⟩
      rcases Int.lt_or_le c 0 with hc | hc
      · obtain ⟨p1, p2⟩ := szI_out (c := c) (by omega)
        rw [p1, p2]
        clear p1 p2
        go_wp2_with fail
        refine (awake_any _ HL.out).mono ?_
        rintro e w2 ⟨rfl, k2⟩
        go_wp2_with fail
        go_ret
        exact ⟨rfl, k2⟩
      rcases Int.lt_or_le 7 c with hc7 | hc7
      · obtain ⟨p1, p2⟩ := szI_out (c := c) (by omega)
        rw [p1, p2]
        clear p1 p2
        go_wp2_with fail
        refine (awake_any _ HL.out).mono ?_
        rintro e w2 ⟨rfl, k2⟩
        go_wp2_with fail
        go_ret
        exact ⟨rfl, k2⟩
      obtain ⟨k, t1, t2, t3, t4, t5, t6, t7, t8⟩ := tab_facts (c := c) ⟨hc, hc7⟩
      rw [t1, t2]
      have T5 := Lib.hid t5
      have T6 := Lib.hid t6
      have T7 := Lib.hid t7
      have T8 := Lib.hid t8
      clear t1 t2 t5 t6 t7 t8
      go_wp2_with fail
      refine (class_any _ HL.out k (by omega) (by omega)).mono ?_
      rintro e w1 ⟨rfl, rfl⟩
      rw [T5.out, T6.out]
      go_wp2_with fail
      refine (class_any _ HL.out (k - 1) (by omega) (by omega)).mono ?_
      rintro e w1 ⟨rfl, rfl⟩
      rw [T7.out]
      rcases T8.out with h0 | ⟨h0, h1⟩
      · subst h0
        generalize clsI (k - 1) = z at *
        go_wp2_with fail
        refine (awake_any _ HL.out).mono ?_
        rintro e w2 ⟨rfl, k2⟩
        go_wp2_with fail
        go_ret
        exact ⟨rfl, k2⟩
      · rw [h1]
        have hd : (decide (c > 0)) = true := decide_eq_true h0
        have hz : (c == 0) = false := by simp; omega
        clear h1
        rw [hd]
        go_wp2_with fail
        refine (awake_any _ HL.out).mono ?_
        rintro e w2 ⟨rfl, k2⟩
        go_wp2_with fail
        go_ret
        exact ⟨by simp, k2⟩
    · have hnm2 : m < n2 := by
        by_cases h7 : q = 7
        · subst h7; exfalso; revert h5; simp [tab]; omega
        · rw [← HN2.out, ha]
          rw [(szI_in (c := (q : Int) + 1) (by omega)).1, show ((q : Int) + 1).toNat = q + 1 by omega]
          exact h5
      have he : e2 = 0 := by
        by_cases h7 : q = 7
        · subst h7; exfalso; revert h5; simp [tab]; omega
        · rw [← HE2.out, ha]
          exact (szI_in (c := (q : Int) + 1) (by omega)).2
      subst he
      clear h5 hq ha
      go_upto_region 6 with fail
      go_wp2_with fail
      refine (size_any _ HL.out c c0 c1).mono ?_
      rintro e w1 ⟨rfl, rfl⟩
      rcases Int.lt_or_le c 0 with hc | hc
      · obtain ⟨p1, p2⟩ := szI_out (c := c) (by omega)
        rw [p1, p2]
        clear p1 p2
        go_wp2_with fail
        refine (awake_any _ HL.out).mono ?_
        rintro e w2 ⟨rfl, k2⟩
        go_wp2_with fail
        go_ret
        exact ⟨rfl, k2⟩
      rcases Int.lt_or_le 7 c with hc7 | hc7
      · obtain ⟨p1, p2⟩ := szI_out (c := c) (by omega)
        rw [p1, p2]
        clear p1 p2
        go_wp2_with fail
        refine (awake_any _ HL.out).mono ?_
        rintro e w2 ⟨rfl, k2⟩
        go_wp2_with fail
        go_ret
        exact ⟨rfl, k2⟩
      obtain ⟨k, t1, t2, t3, t4, t5, t6, t7, t8⟩ := tab_facts (c := c) ⟨hc, hc7⟩
      rw [t1, t2]
      have T5 := Lib.hid t5
      have T6 := Lib.hid t6
      have T7 := Lib.hid t7
      have T8 := Lib.hid t8
      clear t1 t2 t5 t6 t7 t8
      go_wp2_with fail
      refine (class_any _ HL.out k (by omega) (by omega)).mono ?_
      rintro e w1 ⟨rfl, rfl⟩
      rw [T5.out, T6.out]
      go_wp2_with fail
      refine (class_any _ HL.out (k - 1) (by omega) (by omega)).mono ?_
      rintro e w1 ⟨rfl, rfl⟩
      rw [T7.out]
      rcases T8.out with h0 | ⟨h0, h1⟩
      · subst h0
        generalize clsI (k - 1) = z at *
        go_wp2_with fail
        refine (awake_any _ HL.out).mono ?_
        rintro e w2 ⟨rfl, k2⟩
        go_wp2_with fail
        go_ret
        exact ⟨rfl, k2⟩
      · rw [h1]
        have hd : (decide (c > 0)) = true := decide_eq_true h0
        have hz : (c == 0) = false := by simp; omega
        clear h1
        rw [hd]
        go_wp2_with fail
        refine (awake_any _ HL.out).mono ?_
        rintro e w2 ⟨rfl, k2⟩
        go_wp2_with fail
        go_ret
        exact ⟨by simp, k2⟩
end Go.Proofs.YtkmhekfpfmhebaaDoor
