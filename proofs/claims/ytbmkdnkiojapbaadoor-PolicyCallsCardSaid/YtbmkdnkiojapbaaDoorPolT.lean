/-
  The package policy's laid variables out of the row's condition; the law PolicyWhere over its arguments as they come in. No condition.
-/
import Derived.Test.YtbmkdnkiojapbaaDoorPolO
import Derived.Test.YtbmkdnkiojapbaaDoorRows
import Derived.PinnedBridge
import Derived.Lib.LaidCase
import Derived.Lib.LaidU8
import Derived.HandedShaped
import Derived.ChangeMaps5
import Derived.Shelf.Vars
namespace Go.Proofs.YtbmkdnkiojapbaaDoor
open Go.RowKit Go.ChangeShapes Go.WideShapes Go.ChangeAt Go.Joins Go.Lib
set_option linter.unusedVariables false
set_option linter.unusedSimpArgs false

theorem Tryd.caseX : CaseExtra Tryd.prog Tryd.lowerL_ren := {
  n13 := by kernel_rfl,
  y13 := by kernel_rfl,
  c21 := by kernel_rfl,
  c51 := by kernel_rfl,
  c206 := by kernel_rfl,
  c208 := by kernel_rfl }
theorem Tryd.utf8X : U8Extra Tryd.prog Tryd.lowerL_ren := {
  n3 := by kernel_rfl,
  n4 := by kernel_rfl,
  y3 := by kernel_rfl,
  y4 := by kernel_rfl,
  c5 := by kernel_rfl,
  c119 := by kernel_rfl,
  c138 := by kernel_rfl }
set_option maxRecDepth 100000 in
theorem laid_of {W : World} {l : List (String × DataW Unit)} (h : laidMet Tryd.prog l W) (h1 : ("unicode.CaseRanges", Rows.laid_unicode_CaseRanges) ∈ l) (h2 : ("unicode/utf8.first", Rows.laid_unicode_utf8_first) ∈ l) (h3 : ("unicode/utf8.acceptRanges", Rows.laid_unicode_utf8_acceptRanges) ∈ l) (hs : W.ShapedOpen Tryd.prog) : LW W where
  maxl := Tryd.splitL.s1_3 W hs
  case := by
    have h0 := laidMet.reads h h1
    have e : Rows.laid_unicode_CaseRanges = caseData := Pinned.caseRanges_eq
    rw [e] at h0
    exact caseVar_of_reads (ρ := Tryd.lowerL_ren) { Tryd.lowerL with } (by kernel_rfl) Tryd.caseX h0
  utf8 := by
    have h0 := laidMet.reads h h2
    have e : Rows.laid_unicode_utf8_first = firstData := Pinned.utf8First_eq
    rw [e] at h0
    have h4 := laidMet.reads h h3
    have e2 : Rows.laid_unicode_utf8_acceptRanges = acceptData := by kernel_rfl
    rw [e2] at h4
    exact utf8Tabs_of_reads (ρ := Tryd.lowerL_ren) { Tryd.lowerL with } Tryd.utf8X h0 h4
set_option maxRecDepth 100000 in
theorem policyWhere_typed {H : Type} (enc : TypeId × Value → H) (W : World) (base : Nat) {v0 v1 v2 : Value} {d0 d1 d2 : DataW H} {p0 p1 p2 : List MemPlace}
    (o0 : Value.okWide Tryd.prog W .any base 29 v0) (o1 : Value.okWide Tryd.prog W .any base 26 v1) (o2 : Value.okWide Tryd.prog W .any base 9 v2)
    (h0 : DataW.Trod enc Tryd.prog W 0 (fun _ => true) true 29 v0 d0 p0) (h1 : DataW.Trod enc Tryd.prog W 0 (fun _ => true) true 26 v1 d1 p1) (h2 : DataW.Trod enc Tryd.prog W 0 (fun _ => true) true 9 v2 d2 p2) (hL : LW W) :
    Calls Tryd.prog 4 #[v0, v1, v2] W fun e W' => e = .returned (.bool true) ∧ Below W.heap.size W W' := by
  obtain ⟨c, r, rfl⟩ := open_config o0 h0
  obtain ⟨A, n, k, l, rfl, hn, hl, hnk, hk⟩ := open_rules o1 h1
  obtain ⟨s, rfl, _, _, hs⟩ := Go.ChangeMaps.open_string Tryd.underlying9 o2 h2
  exact (where_walk W hL c r A n k l hn hl hnk s).mono fun e W' ⟨he, k⟩ => ⟨he, k.below (Nat.le_refl _) (by simp)⟩
end Go.Proofs.YtbmkdnkiojapbaaDoor
