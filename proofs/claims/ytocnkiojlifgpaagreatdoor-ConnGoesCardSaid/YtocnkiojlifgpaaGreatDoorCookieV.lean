/-
  The walks of package cookie: classes, sizes, hashes, and the reference's. Condition: numbers are in the ranges of their kinds; the table of classes reads as laid.
-/
import Derived.Test.YtocnkiojlifgpaaGreatDoorCookieW
namespace Go.Proofs.YtocnkiojlifgpaaGreatDoor
open Go.RowKit

def tab : List Int := [88, 216, 536, 1024, 1220, 1360, 1440, 1460]
/-- The table of classes, in memory. -/
def Laid (w : World) : Prop := ∀ k, k < 8 → w.cell? ⟨0, k, none⟩ = some (.int .u16 (tab.getD k 0))
theorem Laid.lt {w : World} (h : Laid w) : 0 < w.heap.size := by
  have := h 0 (by omega)
  unfold World.cell? at this
  split at this
  · rename_i hh; exact (Array.getElem?_eq_some_iff.1 hh).1
  · cases this
theorem Laid.keep {w w' : World} (h : Laid w) (k : Keeps [] w w') : Laid w' := fun i hi => (World.cell?_of_block (w := w) (k.block _ h.lt (by simp))).trans (h i hi)
theorem Laid.drewN {w : World} (h : Laid w) (n : Nat) : Laid (w.drewN n) := h

set_option maxHeartbeats 400000 in
theorem nan1 (w : World) (x : Int) : Calls Tryz.prog 153 #[.int .u16 x] w fun e w' => e = .returned (.bool false) ∧ w = w' := by
  go_enter Tryz.func153, Tryz.ntmps153
  go_wp2
  go_ret
  exact ⟨by simp, rfl⟩
set_option maxHeartbeats 400000 in
theorem nan2 (w : World) (x : Int) : Calls Tryz.prog 186 #[.int .u16 x] w fun e w' => e = .returned (.bool false) ∧ w = w' := by
  go_enter Tryz.func186, Tryz.ntmps186
  go_wp2
  go_ret
  exact ⟨by simp, rfl⟩
set_option maxHeartbeats 400000 in
theorem less_any (w : World) (x y : Int) : Calls Tryz.prog 152 #[.int .u16 x, .int .u16 y] w fun e w' => e = .returned (.bool (decide (x < y))) ∧ w = w' := by
  go_enter Tryz.func152, Tryz.ntmps152
  go_wp2_with fail
  refine (nan2 _ _).mono ?_
  rintro e w1 ⟨rfl, rfl⟩
  go_wp2_with fail
  go_ret
  exact ⟨rfl, rfl⟩

/-- How many classes lie below. -/
def below (m : Int) : Nat := if m ≤ 88 then 0 else if m ≤ 216 then 1 else if m ≤ 536 then 2 else if m ≤ 1024 then 3 else if m ≤ 1220 then 4 else if m ≤ 1360 then 5 else if m ≤ 1440 then 6 else if m ≤ 1460 then 7 else 8
def there (m : Int) : Bool := decide (tab.getD (below m) 70000 = m)
theorem below_le (m : Int) : below m ≤ 8 := by unfold below; (repeat' split) <;> omega
theorem below_of {m : Int} {i : Nat} (hi : i ≤ 8) (h1 : ∀ k, k < i → tab.getD k 0 < m) (h2 : ∀ k, i ≤ k → k < 8 → m ≤ tab.getD k 0) : i = below m := by
  have a0 := h1 0; have a1 := h1 1; have a2 := h1 2; have a3 := h1 3; have a4 := h1 4; have a5 := h1 5; have a6 := h1 6; have a7 := h1 7
  have c0 := h2 0; have c1 := h2 1; have c2 := h2 2; have c3 := h2 3; have c4 := h2 4; have c5 := h2 5; have c6 := h2 6; have c7 := h2 7
  simp only [tab, List.getD_cons_zero, List.getD_cons_succ] at a0 a1 a2 a3 a4 a5 a6 a7 c0 c1 c2 c3 c4 c5 c6 c7
  unfold below
  (repeat' split) <;> omega
theorem tab_mono {i k : Nat} (h : i ≤ k) (hk : k < 8) : tab.getD i 0 ≤ tab.getD k 0 := by
  have hi : i < 8 := by omega
  have key : ∀ i, i < 8 → ∀ k, k < 8 → i ≤ k → tab.getD i 0 ≤ tab.getD k 0 := by decide
  exact key i hi k hk h

theorem there_lt {a : Nat} {m : Int} (h : a < 8) (hb : a = below m) : there m = decide (tab.getD a 0 = m) := by
  unfold there
  rw [← hb]
  have : tab.getD a 70000 = tab.getD a 0 := by simp [List.getD, List.getElem?_eq_getElem (show a < tab.length from h)]
  rw [this]

set_option maxHeartbeats 1000000 in
theorem search_any (w : World) (hL : Laid w) (m : Int) (m0 : 0 ≤ m) (m1 : m ≤ 65535) :
    Calls Tryz.prog 96 #[.slice (some ⟨0, 0, none⟩) 8 8, .int .u16 m] w fun e w' => e = .returned (.tuple #[.int .i64 (below m), .bool (there m)]) ∧ w = w' := by
  go_enter Tryz.func96, Tryz.ntmps96
  have HL := Lib.hid hL
  clear hL
  go_wp2_with fail
  go_loop [7, 8] (fun i j => ∃ a b : Nat, a ≤ b ∧ b ≤ 8 ∧ i = .int .i64 a ∧ j = .int .i64 b ∧ (∀ k, k < a → tab.getD k 0 < m) ∧ (∀ k, b ≤ k → k < 8 → m ≤ tab.getD k 0)) (fun i j => (intOf j - intOf i).toNat)
  case atStart => exact ⟨0, 8, by omega, by omega, rfl, rfl, by intro k hk; omega, by intro k h1 h2; omega⟩
  case round =>
    obtain ⟨a, b, hab, hb, rfl, rfl, h1, h2⟩ := hrel
    have H1 := Lib.hid h1
    have H2 := Lib.hid h2
    clear h1 h2
    by_cases hlt : a < b
    · go_upto_region 5 with fail
      have q0 : 0 ≤ ((a : Int) + b) / 2 := by omega
      have q1 : (a : Int) ≤ ((a : Int) + b) / 2 := by omega
      have q2 : ((a : Int) + b) / 2 < b := by omega
      generalize ((a : Int) + b) / 2 = q at *
      obtain ⟨h, rfl⟩ := Int.eq_ofNat_of_zero_le q0
      have hc := HL.out h (by omega)
      have hh8 : (h : Int) < 8 := by omega
      by_cases hm : tab.getD h 0 < m
      · have hm' := hm
        generalize tab.getD h 0 = v at hc hm'
        have HM := Lib.hid hm
        clear hm
        go_wp2_with fail
        refine (less_any _ _ _).mono ?_
        rintro e w1 ⟨rfl, rfl⟩
        go_wp2_with fail
        go_round
        case rel =>
          refine ⟨h + 1, b, by omega, hb, by go_num, rfl, fun k hk => ?_, H2.out⟩
          have := tab_mono (i := k) (k := h) (by omega) (by omega)
          have := HM.out
          omega
        case measure => simp [intOf]; omega
      · have hm' : m ≤ tab.getD h 0 := by omega
        have hm2 := hm'
        generalize tab.getD h 0 = v at hc hm'
        have HM := Lib.hid hm2
        clear hm hm2
        go_wp2_with fail
        refine (less_any _ _ _).mono ?_
        rintro e w1 ⟨rfl, rfl⟩
        go_wp2_with fail
        go_round
        case rel =>
          refine ⟨a, h, by omega, by omega, rfl, rfl, H1.out, fun k hk hk8 => ?_⟩
          have := tab_mono (i := h) (k := k) hk hk8
          have := HM.out
          omega
        case measure => simp [intOf]; omega
    · have hab' : a = b := by omega
      subst hab'
      have hbel := below_of hb H1.out H2.out
      have HBEL := Lib.hid hbel
      clear hlt hab
      by_cases h8 : a < 8
      · have hc := HL.out a h8
        by_cases he : tab.getD a 0 = m
        · have ht : there m = true := by rw [there_lt h8 hbel]; exact decide_eq_true he
          have HT := Lib.hid ht
          rw [he] at hc
          clear hbel he ht
          go_wp2_with fail
          go_ret2
          rw [HT.out, ← HBEL.out]
          exact ⟨rfl, rfl⟩
        · have ht : there m = false := by rw [there_lt h8 hbel]; exact decide_eq_false he
          have HT := Lib.hid ht
          have hne : (tab.getD a 0 == m) = false := by simpa using he
          generalize tab.getD a 0 = v at hc hne
          clear hbel he ht
          go_wp2_with fail
          refine (nan1 _ _).mono ?_
          rintro e w1 ⟨rfl, rfl⟩
          go_wp2_with fail
          go_ret2
          rw [HT.out, ← HBEL.out]
          exact ⟨rfl, rfl⟩
      · have ha8 : a = 8 := by omega
        subst ha8
        have ht : there m = false := by unfold there; rw [← hbel]; simp [tab]; omega
        have HT := Lib.hid ht
        clear hbel ht
        go_wp2_with fail
        go_ret2
        rw [HT.out, ← HBEL.out]
        exact ⟨rfl, rfl⟩
end Go.Proofs.YtocnkiojlifgpaaGreatDoor
