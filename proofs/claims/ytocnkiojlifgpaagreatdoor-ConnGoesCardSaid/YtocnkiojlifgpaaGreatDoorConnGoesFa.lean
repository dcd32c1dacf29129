/-
  The frame of the law ConnGoes: the given statement out of the walk 'connGoes_typed'. No condition.
-/
import Derived.Test.YtocnkiojlifgpaaGreatDoorConnGoes
import Derived.Test.YtocnkiojlifgpaaGreatDoorCards
import Derived.Test.YtocnkiojlifgpaaGreatDoorTie
import Derived.SevenTiedAt
import Derived.ProofKit
import Derived.OpenShut
import Derived.Handed
namespace Go.Proofs.YtocnkiojlifgpaaGreatDoor.connGoes
open Go.ChangeShapes Go.WideShapes Go.ChangeAt Go.RowKit
set_option linter.unusedVariables false
theorem own : ownKnob Tryz.prog.godebug = none := by kernel_rfl
theorem laidOut : laidOutB Tryz.prog = true := by kernel_rfl
set_option maxRecDepth 100000 in
theorem lifted (os : Os) (started : os.Started) (H : Type) (enc : TypeId × Value → H) :
    ReturnsInHanded {} Tryz.checked os 3 .any (fun w args => (Rows.connGoesSpec.pre enc Tryz.prog Tryz.f3 Rows.connGoesRow.domain false w args ∧ laidMet Tryz.prog Rows.connGoesRow.laid w) ∧ sizedMet enc Tryz.prog Tryz.f3 (OpenSpec.ofChange Rows.connGoesSpec) false w args) (Rows.connGoesSpec.post enc Tryz.prog Tryz.f3 false true false false) := by
  refine handed_and_shaped (C := Tryz.checked) (X := (fun w _ => laidMet Tryz.prog Rows.connGoesRow.laid w)) (fun _ _ _ hh h => h.of_heap hh) own started (by kernel_rfl) Tryz.func3
    (witness_atRef (enc := enc) (C := Tryz.checked) (os := os) (X := (fun w _ => laidMet Tryz.prog Rows.connGoesRow.laid w)) false (tabWorld os) #[.agg #[.int .i64 0, .int .u16 0, .int .i64 0, .bool false, .int .u32 0, .slice none 0 0, .int .u8 0, .slice none 0 0], .bool false, .int .u8 0] 8 rfl (by kernel_rfl) (by kernel_rfl) (by kernel_rfl) (by kernel_rfl) (by kernel_rfl) (laid_met os _)) ?_
  intro W base args ds gs before hval0 hW hcnd _ hL hsh
  have hval : ∀ (j : Nat) t v, Tryz.f3.params[j]? = some t → args[j]? = some v → Value.okWide Tryz.prog W .any base t v := hval0
  have hW' := hW
  obtain ⟨p, q, hA0, hV, rfl, hfz, hnd⟩ := hW
  have hA : DataW.TrodAll enc Tryz.prog W 0 (fun _ => true) true Tryz.f3.params.toList args.toList ds p := hA0
  rw [Tryz.params3] at hA hval
  obtain ⟨v0, vs0, d0, ds0, p0, q0, hargs, rfl, rfl, h0, r0⟩ := trodAll_cons hA
  obtain ⟨v1, vs1, d1, ds1, p1, q1, rfl, rfl, rfl, h1, r1⟩ := trodAll_cons r0
  obtain ⟨v2, vs2, d2, ds2, p2, q2, rfl, rfl, rfl, h2, r2⟩ := trodAll_cons r1
  obtain ⟨rfl, rfl, rfl⟩ := trodAll_nil r2
  obtain rfl : args = #[v0, v1, v2] := by cases args; simp_all
  obtain ⟨rfl, rfl⟩ := trodVars_none hV
  have lt0 : ∀ x ∈ p0, x.block < W.heap.size := by obtain ⟨m, hm⟩ := h0; exact DataW.trod_lt m _ _ _ hm
  have lt1 : ∀ x ∈ p1, x.block < W.heap.size := by obtain ⟨m, hm⟩ := h1; exact DataW.trod_lt m _ _ _ hm
  have lt2 : ∀ x ∈ p2, x.block < W.heap.size := by obtain ⟨m, hm⟩ := h2; exact DataW.trod_lt m _ _ _ hm
  clear hA0 hval0
  have hm1 : ("unicode.CaseRanges", Rows.laid_unicode_CaseRanges) ∈ Rows.connGoesRow.laid := .tail _ (.tail _ (.tail _ (.tail _ (.head _))))
  have hm2 : ("unicode/utf8.first", Rows.laid_unicode_utf8_first) ∈ Rows.connGoesRow.laid := .tail _ (.tail _ (.tail _ (.tail _ (.tail _ (.head _)))))
  have hm3 : ("unicode/utf8.acceptRanges", Rows.laid_unicode_utf8_acceptRanges) ∈ Rows.connGoesRow.laid := .head _
  have hm4 : ("culvert/cookie.classes", Rows.laid_culvert_cookie_classes) ∈ Rows.connGoesRow.laid := .tail _ (.head _)
  refine (connGoes_typed enc W base (hval 0 29 v0 rfl rfl) (hval 1 4 v1 rfl rfl) (hval 2 5 v2 rfl rfl) h0 h1 h2 (laid_of hL hm1 hm2 hm3 hm4 hsh)).mono fun e W' ⟨he, bel⟩ => ?_
  subst he
  exact ⟨_, rfl, _, _, _, [], _, [], hW', trodAll_mk1 (shut_bool Tryz.underlying4 _), (trodAll_cons_mk (Below.trod laidOut (by kernel_rfl) (of_decide_eq_true (by kernel_rfl)) h0 bel lt0) (trodAll_cons_mk (Below.trod laidOut (by kernel_rfl) (of_decide_eq_true (by kernel_rfl)) h1 bel lt1) (trodAll_cons_mk (Below.trod laidOut (by kernel_rfl) (of_decide_eq_true (by kernel_rfl)) h2 bel lt2) trodAll_mk0))), rfl, bel.frame _, fun h => by cases h⟩
end Go.Proofs.YtocnkiojlifgpaaGreatDoor.connGoes
