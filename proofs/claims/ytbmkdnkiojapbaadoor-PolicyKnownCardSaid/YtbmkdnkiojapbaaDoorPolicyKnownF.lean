/-
  The frame of the law PolicyKnown: the given statement out of the walk 'policyKnown_typed'. No condition.
-/
import Derived.Test.YtbmkdnkiojapbaaDoorPolicyKnown
import Derived.Test.YtbmkdnkiojapbaaDoorCards
import Derived.Test.YtbmkdnkiojapbaaDoorTie
import Derived.SevenTiedAt
import Derived.ProofKit
import Derived.OpenShut
import Derived.Handed
namespace Go.Proofs.YtbmkdnkiojapbaaDoor.policyKnown
open Go.ChangeShapes Go.WideShapes Go.ChangeAt Go.RowKit
set_option linter.unusedVariables false
theorem own : ownKnob Tryd.prog.godebug = none := by kernel_rfl
theorem laidOut : laidOutB Tryd.prog = true := by kernel_rfl
set_option maxRecDepth 100000 in
theorem lifted (os : Os) (started : os.Started) (H : Type) (enc : TypeId × Value → H) :
    ReturnsInHanded {} Tryd.checked os 8 .any (fun w args => (Rows.policyKnownSpec.pre enc Tryd.prog Tryd.f8 Rows.policyKnownRow.domain false w args ∧ laidMet Tryd.prog Rows.policyKnownRow.laid w) ∧ sizedMet enc Tryd.prog Tryd.f8 (OpenSpec.ofChange Rows.policyKnownSpec) false w args) (Rows.policyKnownSpec.post enc Tryd.prog Tryd.f8 false true false false) := by
  refine handed_and_shaped (C := Tryd.checked) (X := (fun w _ => laidMet Tryd.prog Rows.policyKnownRow.laid w)) (fun _ _ _ hh h => h.of_heap hh) own started (by kernel_rfl) Tryd.func8
    (witness_atRef (enc := enc) (C := Tryd.checked) (os := os) (X := (fun w _ => laidMet Tryd.prog Rows.policyKnownRow.laid w)) false (tabWorld os) #[] 8 rfl (by kernel_rfl) (by kernel_rfl) (by kernel_rfl) (by kernel_rfl) (by kernel_rfl) (laid_met os _)) ?_
  intro W base args ds gs before hval0 hW hcnd _ hL hsh
  have hval : ∀ (j : Nat) t v, Tryd.f8.params[j]? = some t → args[j]? = some v → Value.okWide Tryd.prog W .any base t v := hval0
  have hW' := hW
  obtain ⟨p, q, hA0, hV, rfl, hfz, hnd⟩ := hW
  have hA : DataW.TrodAll enc Tryd.prog W 0 (fun _ => true) true Tryd.f8.params.toList args.toList ds p := hA0
  rw [Tryd.params8] at hA hval
  obtain ⟨hargs, rfl, rfl⟩ := trodAll_nil hA
  obtain rfl : args = #[] := by cases args; simp_all
  obtain ⟨rfl, rfl⟩ := trodVars_none hV
  clear hA0 hval0
  have hm1 : ("unicode.CaseRanges", Rows.laid_unicode_CaseRanges) ∈ Rows.policyKnownRow.laid := .tail _ (.head _)
  have hm2 : ("unicode/utf8.first", Rows.laid_unicode_utf8_first) ∈ Rows.policyKnownRow.laid := .tail _ (.tail _ (.head _))
  have hm3 : ("unicode/utf8.acceptRanges", Rows.laid_unicode_utf8_acceptRanges) ∈ Rows.policyKnownRow.laid := .head _
  refine (policyKnown_typed W (laid_of hL hm1 hm2 hm3 hsh)).mono fun e W' ⟨he, bel⟩ => ?_
  subst he
  exact ⟨_, rfl, _, _, _, [], _, [], hW', trodAll_mk1 (shut_bool Tryd.underlying4 _), trodAll_mk0, rfl, bel.frame _, fun h => by cases h⟩
theorem over : Rows.policyKnownRow.holds Tryd.pinned (OpenSpec.ofChange Rows.policyKnownSpec) :=
  OpenClaim.holds_of_wide 8 Tryd.f8 rfl rfl rfl rfl rfl rfl rfl ⟨rfl, rfl, rfl, rfl, rfl⟩ rfl rfl rfl rfl rfl (by kernel_rfl) Tryd.func8 (by kernel_rfl)
    (of_decide_eq_true (by kernel_rfl)) (by unfold Func.isWrapper; first | (rw [if_pos (by decide +kernel)]; kernel_rfl) | (rw [if_neg (by decide +kernel)]; exact ⟨rfl, rfl⟩))
    (fun os started H enc _ => lifted os started H enc)
set_option maxRecDepth 100000 in
/-- THE STATEMENT. -/
theorem proved : Rows.PolicyKnownCardSaid :=
  Claim7.holds_tied_plain_at .later [] [.data, .pinned, .pinned] true (true, "a9c4f5659f3b8ff88d13cb238a2fb6d7c3c9c8c890e0e3bea875f0e4d9f0c904") false
    over (fun _ h => by cases h) (by kernel_rfl) (fun _ h => by cases h) policyKnown_row_tie rfl ⟨rfl, rfl⟩ (by kernel_rfl) rfl
    (fun f fn hf hfn => by
      obtain rfl : f = 8 := Option.some.inj ((show Tryd.prog.funcNamed "culvert/culvertlaw24.PolicyKnown" = some 8 by kernel_rfl).symm.trans hf) |>.symm
      obtain rfl : fn = Tryd.f8 := (Option.some.inj (Tryd.func8.symm.trans hfn)).symm
      refine ⟨by kernel_rfl, fun j t hj => ?_⟩
      rw [Tryd.params8] at hj
      match j, hj with
      | j + 0, hj => simp at hj)
    (by kernel_rfl)
#print axioms proved
end Go.Proofs.YtbmkdnkiojapbaaDoor.policyKnown
