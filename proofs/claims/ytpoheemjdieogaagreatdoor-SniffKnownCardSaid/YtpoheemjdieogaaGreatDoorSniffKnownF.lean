/-
  The frame of the law SniffKnown: the given statement out of the walk 'sniffKnown_typed'. No condition.
-/
import Derived.Test.YtpoheemjdieogaaGreatDoorSnKo
import Derived.Test.YtpoheemjdieogaaGreatDoorCards
import Derived.Test.YtpoheemjdieogaaGreatDoorTie
import Derived.SevenTiedAt
import Derived.ProofKit
import Derived.OpenShut
import Derived.Handed
namespace Go.Proofs.YtpoheemjdieogaaGreatDoor.sniffKnown
open Go.ChangeShapes Go.WideShapes Go.ChangeAt Go.RowKit
set_option linter.unusedVariables false
theorem own : ownKnob Tryz.prog.godebug = none := by kernel_rfl
theorem laidOut : laidOutB Tryz.prog = true := by kernel_rfl
set_option maxRecDepth 100000 in
theorem lifted (os : Os) (started : os.Started) (H : Type) (enc : TypeId × Value → H) :
    ReturnsInHanded {} Tryz.checked os 7 .any (fun w args => (Rows.sniffKnownSpec.pre enc Tryz.prog Tryz.f7 Rows.sniffKnownRow.domain false w args ∧ laidMet Tryz.prog Rows.sniffKnownRow.laid w) ∧ sizedMet enc Tryz.prog Tryz.f7 (OpenSpec.ofChange Rows.sniffKnownSpec) false w args) (Rows.sniffKnownSpec.post enc Tryz.prog Tryz.f7 false true false false) := by
  refine handed_and_shaped (C := Tryz.checked) (X := (fun w _ => laidMet Tryz.prog Rows.sniffKnownRow.laid w)) (fun _ _ _ hh h => h.of_heap hh) own started (by kernel_rfl) Tryz.func7
    (witness_atRef (enc := enc) (C := Tryz.checked) (os := os) (X := (fun w _ => laidMet Tryz.prog Rows.sniffKnownRow.laid w)) false (tabWorld os) #[] 8 rfl (by kernel_rfl) (by kernel_rfl) (by kernel_rfl) (by kernel_rfl) (by kernel_rfl) (laid_met os _)) ?_
  intro W base args ds gs before hval0 hW hcnd _ hL hsh
  have hval : ∀ (j : Nat) t v, Tryz.f7.params[j]? = some t → args[j]? = some v → Value.okWide Tryz.prog W .any base t v := hval0
  have hW' := hW
  obtain ⟨p, q, hA0, hV, rfl, hfz, hnd⟩ := hW
  have hA : DataW.TrodAll enc Tryz.prog W 0 (fun _ => true) true Tryz.f7.params.toList args.toList ds p := hA0
  rw [Tryz.params7] at hA hval
  obtain ⟨hargs, rfl, rfl⟩ := trodAll_nil hA
  obtain rfl : args = #[] := by cases args; simp_all
  obtain ⟨rfl, rfl⟩ := trodVars_none hV
  clear hA0 hval0
  have hm1 : ("unicode.CaseRanges", Rows.laid_unicode_CaseRanges) ∈ Rows.sniffKnownRow.laid := .tail _ (.tail _ (.tail _ (.head _)))
  have hm2 : ("unicode/utf8.first", Rows.laid_unicode_utf8_first) ∈ Rows.sniffKnownRow.laid := .tail _ (.tail _ (.tail _ (.tail _ (.head _))))
  have hm3 : ("unicode/utf8.acceptRanges", Rows.laid_unicode_utf8_acceptRanges) ∈ Rows.sniffKnownRow.laid := .head _
  refine (sniffKnown_typed W (laid_of hL hm1 hm2 hm3 hsh)).mono fun e W' ⟨he, bel⟩ => ?_
  subst he
  exact ⟨_, rfl, _, _, _, [], _, [], hW', trodAll_mk1 (shut_bool Tryz.underlying4 _), trodAll_mk0, rfl, bel.frame _, fun h => by cases h⟩
theorem over : Rows.sniffKnownRow.holds Tryz.pinned (OpenSpec.ofChange Rows.sniffKnownSpec) :=
  OpenClaim.holds_of_wide 7 Tryz.f7 rfl rfl rfl rfl rfl rfl rfl ⟨rfl, rfl, rfl, rfl, rfl⟩ rfl rfl rfl rfl rfl (by kernel_rfl) Tryz.func7 (by kernel_rfl)
    (of_decide_eq_true (by kernel_rfl)) (by unfold Func.isWrapper; first | (rw [if_pos (by decide +kernel)]; kernel_rfl) | (rw [if_neg (by decide +kernel)]; exact ⟨rfl, rfl⟩))
    (fun os started H enc _ => lifted os started H enc)
set_option maxRecDepth 100000 in
/-- THE STATEMENT. -/
theorem proved : Rows.SniffKnownCardSaid :=
  Claim7.holds_tied_plain_at .later [] [.data, .data, .data, .pinned, .pinned] true (true, "77229b923900316fe8f4a553a2aa59664cd1a86259d9d4a2ed29860ae00ab037") true
    over (fun _ h => by cases h) (by kernel_rfl) (fun _ h => by cases h) sniffKnown_row_tie rfl ⟨rfl, rfl⟩ (by kernel_rfl) rfl
    (fun f fn hf hfn => by
      obtain rfl : f = 7 := Option.some.inj ((show Tryz.prog.funcNamed "culvert/culvertlaw23.SniffKnown" = some 7 by kernel_rfl).symm.trans hf) |>.symm
      obtain rfl : fn = Tryz.f7 := (Option.some.inj (Tryz.func7.symm.trans hfn)).symm
      refine ⟨by kernel_rfl, fun j t hj => ?_⟩
      rw [Tryz.params7] at hj
      match j, hj with
      | j + 0, hj => simp at hj)
    (by kernel_rfl)
#print axioms proved
end Go.Proofs.YtpoheemjdieogaaGreatDoor.sniffKnown
