/-
  The walk of PolicyNames' closure has: whether a rule bears the name. Condition: the rules lie in memory as the slice says.
-/
import Derived.Test.YtbmkdnkiojapbaaDoorPolR
namespace Go.Proofs.YtbmkdnkiojapbaaDoor
open Go.RowKit Go.Lib
set_option linter.unusedVariables false
set_option linter.unusedSimpArgs false

theorem hasL_step {l : List PR} {i : Nat} {x : PR} {s : ByteArray} (hx : l[i]? = some x) (h : (l.take i).any (fun x => x.name.toList == s.toList) = false) (hs : (x.name.toList == s.toList) = false) : (l.take (i + 1)).any (fun x => x.name.toList == s.toList) = false := by
  rw [List.take_add_one, hx, List.any_append, h]
  simp [hs]
set_option maxRecDepth 100000 in
set_option maxHeartbeats 2000000 in
theorem has_any (w : World) (lb : Nat) (A : Option Addr) (n k : Nat) (l : List PR) (hn : l.length = n) (hb : n ≤ 9223372036854775807) (hl : RulesAt w A l) (hc : w.cell? ⟨lb, 0, none⟩ = some (.slice A n k)) (s : ByteArray) :
    Calls Tryd.prog 15 #[.string s, .pointer (some ⟨lb, 0, none⟩)] w fun e w' => e = .returned (.bool (hasL l s)) ∧ w' = w := by
  obtain ⟨res, hres⟩ : ∃ res, hasL l s = res := ⟨_, rfl⟩
  rw [hres]
  have HR := Lib.hid hres
  have HN := Lib.hid hn
  have HL := Lib.hid hl
  clear hres hn hl
  go_enter Tryd.func15, Tryd.ntmps15
  go_wp2_with fail
  go_loopw [4] (fun iv wr => ∃ i : Nat, iv = .int .i64 i ∧ i ≤ n ∧ w = wr ∧ Hid ((l.take i).any (fun x => x.name.toList == s.toList) = false)) (fun iv _ => n - (intOf iv).toNat)
  case atStart => exact ⟨0, rfl, by omega, rfl, Lib.hid (by simp)⟩
  case round =>
    obtain ⟨i, rfl, hi, rfl, hany⟩ := hrel
    by_cases hlt : i < n
    · have hlt' : (i : Int) < n := by omega
      obtain ⟨x, hx⟩ : ∃ x, l[i]? = some x := ⟨_, List.getElem?_eq_getElem (by rw [HN.out]; exact hlt)⟩
      have hne : ¬ l = [] := by rintro rfl; simp at hx
      obtain ⟨b, o, rfl, hcs⟩ := HL.out.resolve_left hne
      have g0 := (hcs i x hx).1
      have HX := Lib.hid hx
      clear hcs hx hne
      obtain ⟨q, hq⟩ : ∃ q, (x.name.toList == s.toList) = q := ⟨_, rfl⟩
      have HQ := Lib.hid hq
      cases q with
      | true =>
        have hr : res = true := by
          rw [← HR.out]
          unfold hasL
          exact List.any_eq_true.2 ⟨x, List.mem_of_getElem? HX.out, HQ.out⟩
        subst hr
        go_wp2_with fail
        go_ret
        exact ⟨rfl, rfl⟩
      | false =>
        have HY := Lib.hid (hasL_step HX.out hany.out HQ.out)
        go_wp2_with fail
        exact ⟨⟨i + 1, by simp, by omega, trivial, HY⟩, by simp [intOf]; omega⟩
    · obtain rfl : i = n := by omega
      have hr : res = false := by
        rw [← HR.out]
        unfold hasL
        have := hany.out
        rwa [List.take_of_length_le (by rw [HN.out]; exact Nat.le_refl _)] at this
      subst hr
      have hlt' : ¬ (i : Int) < (i : Int) := by omega
      go_wp2_with fail
      go_ret
      exact ⟨rfl, rfl⟩
theorem upper_any (w : World) (hw : LW w) (s : ByteArray) (hs : s.size < 35184372088832) : Calls Tryd.prog 16 #[.string s] w fun e w' => e = .returned (.string (upperS s)) ∧ Keeps [] w w' :=
  (Any.strings_ToUpper_any Tryd.upperL Tryd.upperX s w hs hw.case hw.utf8).mono fun e w' ⟨h, k⟩ => ⟨h, Below.keeps k⟩
end Go.Proofs.YtbmkdnkiojapbaaDoor
