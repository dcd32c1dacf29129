/-
  The frame of the law SniffPlays: the given statement out of the walk 'sniffPlays_typed'. No condition.
-/
import Derived.Test.YtpoheemjdieogaaGreatDoorSnPlays
import Derived.Test.YtpoheemjdieogaaGreatDoorCards
import Derived.Test.YtpoheemjdieogaaGreatDoorTie
import Derived.SevenTiedAt
import Derived.ProofKit
import Derived.OpenShut
import Derived.Handed
namespace Go.Proofs.YtpoheemjdieogaaGreatDoor.sniffPlays
open Go.ChangeShapes Go.WideShapes Go.ChangeAt Go.RowKit
set_option linter.unusedVariables false
theorem own : ownKnob Tryz.prog.godebug = none := by kernel_rfl
theorem laidOut : laidOutB Tryz.prog = true := by kernel_rfl
set_option maxRecDepth 100000 in
theorem lifted (os : Os) (started : os.Started) (H : Type) (enc : TypeId × Value → H) :
    ReturnsInHanded {} Tryz.checked os 8 .any (fun w args => (Rows.sniffPlaysSpec.pre enc Tryz.prog Tryz.f8 Rows.sniffPlaysRow.domain false w args ∧ laidMet Tryz.prog Rows.sniffPlaysRow.laid w) ∧ sizedMet enc Tryz.prog Tryz.f8 (OpenSpec.ofChange Rows.sniffPlaysSpec) false w args) (Rows.sniffPlaysSpec.post enc Tryz.prog Tryz.f8 false true false false) := by
  refine handed_and_shaped (C := Tryz.checked) (X := (fun w _ => laidMet Tryz.prog Rows.sniffPlaysRow.laid w)) (fun _ _ _ hh h => h.of_heap hh) own started (by kernel_rfl) Tryz.func8
    (witness_atRef (enc := enc) (C := Tryz.checked) (os := os) (X := (fun w _ => laidMet Tryz.prog Rows.sniffPlaysRow.laid w)) false (tabWorld os) #[.int .i64 0, .slice none 0 0, .int .u8 0] 8 rfl (by kernel_rfl) (by kernel_rfl) (by kernel_rfl) (by kernel_rfl) (by kernel_rfl) (laid_met os _)) ?_
  intro W base args ds gs before hval0 hW hcnd _ hL hsh
  have hval : ∀ (j : Nat) t v, Tryz.f8.params[j]? = some t → args[j]? = some v → Value.okWide Tryz.prog W .any base t v := hval0
  have hW' := hW
  obtain ⟨p, q, hA0, hV, rfl, hfz, hnd⟩ := hW
  have hA : DataW.TrodAll enc Tryz.prog W 0 (fun _ => true) true Tryz.f8.params.toList args.toList ds p := hA0
  rw [Tryz.params8] at hA hval
  obtain ⟨v0, vs0, d0, ds0, p0, q0, hargs, rfl, rfl, h0, r0⟩ := trodAll_cons hA
  obtain ⟨v1, vs1, d1, ds1, p1, q1, rfl, rfl, rfl, h1, r1⟩ := trodAll_cons r0
  obtain ⟨v2, vs2, d2, ds2, p2, q2, rfl, rfl, rfl, h2, r2⟩ := trodAll_cons r1
  obtain ⟨rfl, rfl, rfl⟩ := trodAll_nil r2
  obtain rfl : args = #[v0, v1, v2] := by cases args; simp_all
  obtain ⟨rfl, rfl⟩ := trodVars_none hV
  have lt0 : ∀ x ∈ p0, x.block < W.heap.size := by obtain ⟨m, hm⟩ := h0; exact DataW.trod_lt m _ _ _ hm
  have lt1 : ∀ x ∈ p1, x.block < W.heap.size := by obtain ⟨m, hm⟩ := h1; exact DataW.trod_lt m _ _ _ hm
  have lt2 : ∀ x ∈ p2, x.block < W.heap.size := by obtain ⟨m, hm⟩ := h2; exact DataW.trod_lt m _ _ _ hm
  clear hA0 hval0
  have hm1 : ("unicode.CaseRanges", Rows.laid_unicode_CaseRanges) ∈ Rows.sniffPlaysRow.laid := .tail _ (.tail _ (.tail _ (.head _)))
  have hm2 : ("unicode/utf8.first", Rows.laid_unicode_utf8_first) ∈ Rows.sniffPlaysRow.laid := .tail _ (.tail _ (.tail _ (.tail _ (.head _))))
  have hm3 : ("unicode/utf8.acceptRanges", Rows.laid_unicode_utf8_acceptRanges) ∈ Rows.sniffPlaysRow.laid := .head _
  refine (sniffPlays_typed enc W base (hval 0 3 v0 rfl rfl) (hval 1 48 v1 rfl rfl) (hval 2 5 v2 rfl rfl) h0 h1 h2 (laid_of hL hm1 hm2 hm3 hsh)).mono fun e W' ⟨he, bel⟩ => ?_
  subst he
  exact ⟨_, rfl, _, _, _, [], _, [], hW', trodAll_mk1 (shut_bool Tryz.underlying4 _), (trodAll_cons_mk (Below.trod laidOut (by kernel_rfl) (of_decide_eq_true (by kernel_rfl)) h0 bel lt0) (trodAll_cons_mk (Below.trod laidOut (by kernel_rfl) (of_decide_eq_true (by kernel_rfl)) h1 bel lt1) (trodAll_cons_mk (Below.trod laidOut (by kernel_rfl) (of_decide_eq_true (by kernel_rfl)) h2 bel lt2) trodAll_mk0))), rfl, bel.frame _, fun h => by cases h⟩
theorem over : Rows.sniffPlaysRow.holds Tryz.pinned (OpenSpec.ofChange Rows.sniffPlaysSpec) :=
  OpenClaim.holds_of_wide 8 Tryz.f8 rfl rfl rfl rfl rfl rfl rfl ⟨rfl, rfl, rfl, rfl, rfl⟩ rfl rfl rfl rfl rfl (by kernel_rfl) Tryz.func8 (by kernel_rfl)
    (of_decide_eq_true (by kernel_rfl)) (by unfold Func.isWrapper; first | (rw [if_pos (by decide +kernel)]; kernel_rfl) | (rw [if_neg (by decide +kernel)]; exact ⟨rfl, rfl⟩))
    (fun os started H enc _ => lifted os started H enc)
set_option maxRecDepth 100000 in
/-- THE STATEMENT. -/
theorem proved : Rows.SniffPlaysCardSaid :=
  Claim7.holds_tied_plain_at .later [] [.data, .data, .data, .pinned, .pinned] true (true, "77229b923900316fe8f4a553a2aa59664cd1a86259d9d4a2ed29860ae00ab037") true
    over (fun _ h => by cases h) (by kernel_rfl) (fun _ h => by cases h) sniffPlays_row_tie rfl ⟨rfl, rfl⟩ (by kernel_rfl) rfl
    (fun f fn hf hfn => by
      obtain rfl : f = 8 := Option.some.inj ((show Tryz.prog.funcNamed "culvert/culvertlaw23.SniffPlays" = some 8 by kernel_rfl).symm.trans hf) |>.symm
      obtain rfl : fn = Tryz.f8 := (Option.some.inj (Tryz.func8.symm.trans hfn)).symm
      refine ⟨by kernel_rfl, fun j t hj => ?_⟩
      rw [Tryz.params8] at hj
      match j, hj with
      | 0, hj =>
        obtain rfl : t = 3 := by simpa using hj.symm
        exact (by kernel_rfl : Tryz.pinned.checked.prog.wantsStandIn 3 = false)
      | 1, hj =>
        obtain rfl : t = 48 := by simpa using hj.symm
        exact (by kernel_rfl : Tryz.pinned.checked.prog.wantsStandIn 48 = false)
      | 2, hj =>
        obtain rfl : t = 5 := by simpa using hj.symm
        exact (by kernel_rfl : Tryz.pinned.checked.prog.wantsStandIn 5 = false)
      | j + 3, hj => simp at hj)
    (by kernel_rfl)
#print axioms proved
end Go.Proofs.YtpoheemjdieogaaGreatDoor.sniffPlays
