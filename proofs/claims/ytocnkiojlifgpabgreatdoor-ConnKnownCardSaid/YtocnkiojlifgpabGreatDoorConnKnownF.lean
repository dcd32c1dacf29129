/-
  The frame of the law ConnKnown: the given statement out of the walk 'connKnown_typed'. No condition.
-/
import Derived.Test.YtocnkiojlifgpabGreatDoorConnKnown
import Derived.Test.YtocnkiojlifgpabGreatDoorCards
import Derived.Test.YtocnkiojlifgpabGreatDoorTie
import Derived.SevenTiedAt
import Derived.ProofKit
import Derived.OpenShut
import Derived.Handed
namespace Go.Proofs.YtocnkiojlifgpabGreatDoor.connKnown
open Go.ChangeShapes Go.WideShapes Go.ChangeAt Go.RowKit
set_option linter.unusedVariables false
theorem own : ownKnob Tryz.prog.godebug = none := by kernel_rfl
theorem laidOut : laidOutB Tryz.prog = true := by kernel_rfl
set_option maxRecDepth 100000 in
theorem lifted (os : Os) (started : os.Started) (H : Type) (enc : TypeId × Value → H) :
    ReturnsInHanded {} Tryz.checked os 3 .any (fun w args => (Rows.connKnownSpec.pre enc Tryz.prog Tryz.f3 Rows.connKnownRow.domain false w args ∧ laidMet Tryz.prog Rows.connKnownRow.laid w) ∧ sizedMet enc Tryz.prog Tryz.f3 (OpenSpec.ofChange Rows.connKnownSpec) false w args) (Rows.connKnownSpec.post enc Tryz.prog Tryz.f3 false true false false) := by
  refine handed_and_shaped (C := Tryz.checked) (X := (fun w _ => laidMet Tryz.prog Rows.connKnownRow.laid w)) (fun _ _ _ hh h => h.of_heap hh) own started (by kernel_rfl) Tryz.func3
    (witness_atRef (enc := enc) (C := Tryz.checked) (os := os) (X := (fun w _ => laidMet Tryz.prog Rows.connKnownRow.laid w)) false (tabWorld os) #[] 8 rfl (by kernel_rfl) (by kernel_rfl) (by kernel_rfl) (by kernel_rfl) (by kernel_rfl) (laid_met os _)) ?_
  intro W base args ds gs before hval0 hW hcnd _ hL hsh
  have hval : ∀ (j : Nat) t v, Tryz.f3.params[j]? = some t → args[j]? = some v → Value.okWide Tryz.prog W .any base t v := hval0
  have hW' := hW
  obtain ⟨p, q, hA0, hV, rfl, hfz, hnd⟩ := hW
  have hA : DataW.TrodAll enc Tryz.prog W 0 (fun _ => true) true Tryz.f3.params.toList args.toList ds p := hA0
  rw [Tryz.params3] at hA hval
  obtain ⟨hargs, rfl, rfl⟩ := trodAll_nil hA
  obtain rfl : args = #[] := by cases args; simp_all
  obtain ⟨rfl, rfl⟩ := trodVars_none hV
  clear hA0 hval0
  have hm1 : ("unicode.CaseRanges", Rows.laid_unicode_CaseRanges) ∈ Rows.connKnownRow.laid := .tail _ (.tail _ (.tail _ (.tail _ (.head _))))
  have hm2 : ("unicode/utf8.first", Rows.laid_unicode_utf8_first) ∈ Rows.connKnownRow.laid := .tail _ (.tail _ (.tail _ (.tail _ (.tail _ (.head _)))))
  have hm3 : ("unicode/utf8.acceptRanges", Rows.laid_unicode_utf8_acceptRanges) ∈ Rows.connKnownRow.laid := .head _
  have hm4 : ("culvert/cookie.classes", Rows.laid_culvert_cookie_classes) ∈ Rows.connKnownRow.laid := .tail _ (.head _)
  refine (connKnown_typed W (laid_of hL hm1 hm2 hm3 hm4 hsh)).mono fun e W' ⟨he, bel⟩ => ?_
  subst he
  exact ⟨_, rfl, _, _, _, [], _, [], hW', trodAll_mk1 (shut_bool Tryz.underlying4 _), trodAll_mk0, rfl, bel.frame _, fun h => by cases h⟩
theorem over : Rows.connKnownRow.holds Tryz.pinned (OpenSpec.ofChange Rows.connKnownSpec) :=
  OpenClaim.holds_of_wide 3 Tryz.f3 rfl rfl rfl rfl rfl rfl rfl ⟨rfl, rfl, rfl, rfl, rfl⟩ rfl rfl rfl rfl rfl (by kernel_rfl) Tryz.func3 (by kernel_rfl)
    (of_decide_eq_true (by kernel_rfl)) (by unfold Func.isWrapper; first | (rw [if_pos (by decide +kernel)]; kernel_rfl) | (rw [if_neg (by decide +kernel)]; exact ⟨rfl, rfl⟩))
    (fun os started H enc _ => lifted os started H enc)
set_option maxRecDepth 100000 in
/-- THE STATEMENT. -/
theorem proved : Rows.ConnKnownCardSaid :=
  Claim7.holds_tied_plain_at .later [] [.data, .widerDeep, .data, .data, .pinned, .pinned] true (true, "7c2ca847af961a87e8a60cf9abce71db1d288c70c09683898905c41afe161463") true
    over (fun _ h => by cases h) (by kernel_rfl) (fun _ h => by cases h) connKnown_row_tie rfl ⟨rfl, rfl⟩ (by kernel_rfl) rfl
    (fun f fn hf hfn => by
      obtain rfl : f = 3 := Option.some.inj ((show Tryz.prog.funcNamed "culvert/culvertlaw27.ConnKnown" = some 3 by kernel_rfl).symm.trans hf) |>.symm
      obtain rfl : fn = Tryz.f3 := (Option.some.inj (Tryz.func3.symm.trans hfn)).symm
      refine ⟨by kernel_rfl, fun j t hj => ?_⟩
      rw [Tryz.params3] at hj
      match j, hj with
      | j + 0, hj => simp at hj)
    (by kernel_rfl)
#print axioms proved
end Go.Proofs.YtocnkiojlifgpabGreatDoor.connKnown
