/-
  The walk of strings.EqualFold of a name of any length and "host". Condition: the name's bytes are a word's.
-/
import Derived.Test.YtjppfdilfcokeaaDoorHttpQ
import Derived.Deep.LoopGhost
import Derived.Lib.Walk
import Derived.Laws.Strings3
namespace Go.Proofs.YtjppfdilfcokeaaDoor
open Go.RowKit Go.Lib
set_option linter.unusedVariables false
set_option linter.unusedSimpArgs false

theorem bs_take (a : List UInt8) (i : Nat) (x : UInt8) (hx : a[i]? = some x) (h : i < (bs a).size) : (bs a)[i] = x := by
  have h1 := Lib.data_getElem? (bs a) i h
  exact Option.some.inj (h1.symm.trans hx)
theorem drop_cons {l : List UInt8} {i : Nat} {x : UInt8} (h : l[i]? = some x) : l.drop i = x :: l.drop (i + 1) := by
  obtain ⟨hi, he⟩ := List.getElem?_eq_some_iff.1 h
  rw [List.drop_eq_getElem_cons hi, he]
set_option maxRecDepth 1000000 in
set_option maxHeartbeats 8000000 in
theorem eqHost_any {a : List UInt8} (ha : a.length ≤ 9223372036854775807) : EqHost a := fun w hwd => by
  have HA := Lib.hid (fun b (hb : b ∈ a) => word_lt (List.all_eq_true.1 hwd b hb))
  obtain ⟨res, hres⟩ : ∃ res, equalFold a hostL = res := ⟨_, rfl⟩
  rw [hres]
  obtain ⟨M, hM⟩ : ∃ M : Nat, min a.length 4 = M := ⟨_, rfl⟩
  have hmin : min (((bs a).size : Nat) : Int) 4 = (M : Int) := by rw [bs_size]; omega
  have hmin2 : min ((a.length : Nat) : Int) 4 = (M : Int) := by omega
  have hM4 : M ≤ 4 := by omega
  have hMa : M ≤ a.length := by omega
  have HM := Lib.hid (show M = a.length ∨ M = 4 by omega)
  have HRES := Lib.hid hres
  have hsz : (bs a).size = a.length := rfl
  clear hwd hres hM
  go_enter Tryd.func30, Tryd.ntmps30
  go_wp2_with fail
  go_step3
  go_wp2_with fail
  go_loopg [5] M (fun g v wx => wx = w ∧ ∃ i : Nat, i + g = M ∧ v = .int .i64 i ∧ equalFold (a.drop i) (hostL.drop i) = res)
  case atStart => exact ⟨rfl, 0, by omega, rfl, HRES.out⟩
  case round =>
    obtain ⟨rfl, i, hig, rfl, hinv⟩ := hrel
    have HI := Lib.hid hinv
    clear hinv hmin hmin2
    cases gk with
    | zero =>
      have hiM : ¬ ((i : Int) < (M : Int)) := by omega
      have him : i = M := by omega
      have hE : res = decide (a.length = 4) := by
        rw [← HI.out, him, equalFold_end _ _ (by
          rcases HM.out with h | h
          · exact .inl (List.drop_eq_nil_of_le (by omega))
          · exact .inr (List.drop_eq_nil_of_le (by rw [h]; decide)))]
        have h4 : hostL.length = 4 := rfl
        simp only [List.length_drop]
        exact decide_eq_decide.2 (by omega)
      have HE := Lib.hid hE
      clear hE him
      by_cases h4 : a.length = 4
      · have hn : res = true := by rw [HE.out]; exact decide_eq_true h4
        subst hn
        have hb : ((a.length : Int) == 4) = true := beq_iff_eq.2 (by omega)
        clear h4
        go_wp2_with fail
        go_ret
        exact ⟨rfl, rfl⟩
      · have hn : res = false := by rw [HE.out]; exact decide_eq_false h4
        subst hn
        have hb : ((a.length : Int) == 4) = false := beq_eq_false_iff_ne.2 (by omega)
        clear h4
        go_wp2_with fail
        go_ret
        exact ⟨rfl, rfl⟩
    | succ g =>
      have hiM : (i : Int) < (M : Int) := by omega
      have hia : i < a.length := by omega
      have hi4 : i < 4 := by omega
      obtain ⟨x, hx⟩ : ∃ x, a[i]? = some x := ⟨_, List.getElem?_eq_getElem hia⟩
      obtain ⟨y, hy⟩ : ∃ y, hostL[i]? = some y := ⟨_, List.getElem?_eq_getElem (by rw [show hostL.length = 4 from rfl]; exact hi4)⟩
      have hx128 : x.toNat < 128 := HA.out x (List.mem_of_getElem? hx)
      have hy128 : y.toNat < 128 := by
        have h2 : y ∈ ([104, 111, 115, 116] : List UInt8) := List.mem_of_getElem? hy
        simp only [List.mem_cons, List.not_mem_nil, or_false] at h2
        rcases h2 with h | h | h | h <;> rw [h] <;> decide
      have hgx : (bs a)[i]'(by rw [hsz]; exact hia) = x := bs_take a i x hx _
      have hgy : (⟨#[104, 111, 115, 116]⟩ : ByteArray)[i]'(by show i < 4; exact hi4) = y := bs_take hostL i y hy _
      have hiI : (i : Int) < (a.length : Int) := by omega
      have hi4I : (i : Int) < 4 := by omega
      have hor : bits .or .u8 (x.toNat : Int) (y.toNat : Int) = ((x.toNat ||| y.toNat : Nat) : Int) := u8_or_nat _ _ (by omega) (by omega)
      have hor128 : ¬ ((128 : Int) ≤ ((x.toNat ||| y.toNat : Nat) : Int)) := by have := Nat.or_lt_two_pow (n := 7) hx128 hy128; omega
      have HX := Lib.hid (And.intro hx hy)
      clear hx hy
      go_wp2_with fail
      all_goals (try simp only [beq_iff_eq, beq_eq_false_iff_ne, ne_eq] at *)
      all_goals first
        | (go_roundg g
           case measure => omega
           case rel => exact ⟨rfl, i + 1, by omega, by first | rfl | simp, by rw [← HI.out, drop_cons HX.out.1, drop_cons HX.out.2, equalFold_yes _ _ _ _ (decide_eq_true (by omega))]⟩)
        | (go_ret
           refine ⟨?_, rfl⟩
           rw [← HI.out, drop_cons HX.out.1, drop_cons HX.out.2, equalFold_no _ _ _ _ (decide_eq_false (by omega))]
           rfl)
end Go.Proofs.YtjppfdilfcokeaaDoor
