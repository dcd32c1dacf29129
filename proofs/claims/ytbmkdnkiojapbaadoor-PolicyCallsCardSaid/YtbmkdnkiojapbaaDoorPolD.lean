/-
  The walk of culvertref24's Same at two rows that hold the same rules: true. Condition: the rows are no longer than an int holds.
-/
import Derived.Test.YtbmkdnkiojapbaaDoorPolX
namespace Go.Proofs.YtbmkdnkiojapbaaDoor
open Go.RowKit Go.Lib
set_option linter.unusedVariables false
set_option linter.unusedSimpArgs false

set_option maxRecDepth 100000 in
set_option maxHeartbeats 4000000 in
theorem same_any (w : World) (A B : Option Addr) (n k1 k2 : Nat) (l : List PR) (hn : l.length = n) (hb : n ≤ 1000000) (hA : RulesAt w A l) (hB : RulesAt w B l) :
    Calls Tryd.prog 17 #[.slice A n k1, .slice B n k2] w fun e w' => e = .returned (.bool true) ∧ Keeps [] w w' := by
  have HN := Lib.hid hn
  have HA := Lib.hid hA
  have HB := Lib.hid hB
  clear hn hA hB
  go_enter Tryd.func17, Tryd.ntmps17
  go_wp2_with fail
  go_loopw [5] (fun iv wr => ∃ i : Nat, iv = .int .i64 i ∧ i ≤ n ∧ Hid (Keeps [] w wr)) (fun iv _ => n - (intOf iv).toNat)
  case atStart => exact ⟨0, rfl, by omega, Lib.hid (Keeps.refl _ _)⟩
  case round =>
    obtain ⟨i, rfl, hi, HK⟩ := hrel
    by_cases hlt : i < n
    · have hlt' : (i : Int) < n := by omega
      have hi0 : (0 : Int) ≤ i := by omega
      obtain ⟨x, hx⟩ : ∃ x, l[i]? = some x := ⟨_, List.getElem?_eq_getElem (by rw [HN.out]; exact hlt)⟩
      have hne : ¬ l = [] := by rintro rfl; simp at hx
      obtain ⟨b, o, rfl, hc⟩ := HA.out.resolve_left hne
      obtain ⟨b', o', rfl, hc'⟩ := HB.out.resolve_left hne
      have HC := Lib.hid (hc i x hx)
      have HC' := Lib.hid (hc' i x hx)
      obtain ⟨xn, xd, xa, xp⟩ := x
      have key := fun (W : World) (kz : Keeps [] w W) => show (W.cell? ⟨b, o + i * 4, none⟩ = some (.string xn) ∧ W.cell? ⟨b, o + i * 4 + 1, none⟩ = some (.bool xd) ∧ W.cell? ⟨b, o + i * 4 + 2, none⟩ = some (.int .u32 xa) ∧ W.cell? ⟨b, o + i * 4 + 3, none⟩ = some (.int .u16 xp)) ∧
          (W.cell? ⟨b', o' + i * 4, none⟩ = some (.string xn) ∧ W.cell? ⟨b', o' + i * 4 + 1, none⟩ = some (.bool xd) ∧ W.cell? ⟨b', o' + i * 4 + 2, none⟩ = some (.int .u32 xa) ∧ W.cell? ⟨b', o' + i * 4 + 3, none⟩ = some (.int .u16 xp)) from
        ⟨⟨cell_keeps kz HC.out.1 (by simp), cell_keeps kz HC.out.2.1 (by simp), cell_keeps kz HC.out.2.2.1 (by simp), cell_keeps kz HC.out.2.2.2 (by simp)⟩, ⟨cell_keeps kz HC'.out.1 (by simp), cell_keeps kz HC'.out.2.1 (by simp), cell_keeps kz HC'.out.2.2.1 (by simp), cell_keeps kz HC'.out.2.2.2 (by simp)⟩⟩
      have HKEY := Lib.hid (key _ HK.out.drew')
      have HKD := Lib.hid HK.out.drew'
      clear hc hc' hx hne key
      go_wp2_with fail
      go_region_held3 (fun W => (W.cell? ⟨b, o + i * 4, none⟩ = some (.string xn) ∧ W.cell? ⟨b, o + i * 4 + 1, none⟩ = some (.bool xd) ∧ W.cell? ⟨b, o + i * 4 + 2, none⟩ = some (.int .u32 xa) ∧ W.cell? ⟨b, o + i * 4 + 3, none⟩ = some (.int .u16 xp)) ∧
          (W.cell? ⟨b', o' + i * 4, none⟩ = some (.string xn) ∧ W.cell? ⟨b', o' + i * 4 + 1, none⟩ = some (.bool xd) ∧ W.cell? ⟨b', o' + i * 4 + 2, none⟩ = some (.int .u32 xa) ∧ W.cell? ⟨b', o' + i * 4 + 3, none⟩ = some (.int .u16 xp)))
        (exact HKEY.out)
        (fail)
      go_wp2_with fail
      exact ⟨⟨i + 1, by simp, by omega, HKD⟩, by simp [intOf]; omega⟩
    · obtain rfl : i = n := by omega
      have hlt' : ¬ (i : Int) < (i : Int) := by omega
      go_wp2_with fail
      go_ret
      exact ⟨rfl, HK.out⟩
end Go.Proofs.YtbmkdnkiojapbaaDoor
