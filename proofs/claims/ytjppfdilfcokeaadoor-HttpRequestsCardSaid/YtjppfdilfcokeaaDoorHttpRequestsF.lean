/-
  The frame of the law HttpRequests: the given statement out of the walk 'httpRequests_typed'. No condition.
-/
import Derived.Test.YtjppfdilfcokeaaDoorHttpRo
import Derived.Test.YtjppfdilfcokeaaDoorCards
import Derived.Test.YtjppfdilfcokeaaDoorTie
import Derived.SevenTiedAt
import Derived.ProofKit
import Derived.OpenShut
import Derived.Handed
namespace Go.Proofs.YtjppfdilfcokeaaDoor.httpRequests
open Go.ChangeShapes Go.WideShapes Go.ChangeAt Go.RowKit
set_option linter.unusedVariables false
theorem own : ownKnob Tryd.prog.godebug = none := by kernel_rfl
theorem laidOut : laidOutB Tryd.prog = true := by kernel_rfl
set_option maxRecDepth 100000 in
theorem lifted (os : Os) (started : os.Started) (H : Type) (enc : TypeId × Value → H) :
    ReturnsInHanded {} Tryd.checked os 4 .any (fun w args => (Rows.httpRequestsSpec.pre enc Tryd.prog Tryd.f4 Rows.httpRequestsRow.domain false w args ∧ laidMet Tryd.prog Rows.httpRequestsRow.laid w) ∧ sizedMet enc Tryd.prog Tryd.f4 (OpenSpec.ofChange Rows.httpRequestsSpec) false w args) (Rows.httpRequestsSpec.post enc Tryd.prog Tryd.f4 false true false false) := by
  refine handed_and_shaped (C := Tryd.checked) (X := (fun w _ => laidMet Tryd.prog Rows.httpRequestsRow.laid w)) (fun _ _ _ hh h => h.of_heap hh) own started (by kernel_rfl) Tryd.func4
    (witness_atRef (enc := enc) (C := Tryd.checked) (os := os) (X := (fun w _ => laidMet Tryd.prog Rows.httpRequestsRow.laid w)) false (tabWorld os) #[.string ByteArray.empty, .slice none 0 0] 8 rfl (by kernel_rfl) (by kernel_rfl) (by kernel_rfl) (by kernel_rfl) (by kernel_rfl) (laid_met os _)) ?_
  intro W base args ds gs before hval0 hW hcnd hwt hL hsh
  have hval : ∀ (j : Nat) t v, Tryd.f4.params[j]? = some t → args[j]? = some v → Value.okWide Tryd.prog W .any base t v := hval0
  have hW' := hW
  obtain ⟨p, q, hA0, hV, rfl, hfz, hnd⟩ := hW
  have hA : DataW.TrodAll enc Tryd.prog W 0 (fun _ => true) true Tryd.f4.params.toList args.toList ds p := hA0
  rw [Tryd.params4] at hA hval
  obtain ⟨v0, vs0, d0, ds0, p0, q0, hargs, rfl, rfl, h0, r0⟩ := trodAll_cons hA
  obtain ⟨v1, vs1, d1, ds1, p1, q1, rfl, rfl, rfl, h1, r1⟩ := trodAll_cons r0
  obtain ⟨rfl, rfl, rfl⟩ := trodAll_nil r1
  obtain rfl : args = #[v0, v1] := by cases args; simp_all
  obtain ⟨rfl, rfl⟩ := trodVars_none hV
  have lt0 : ∀ x ∈ p0, x.block < W.heap.size := by obtain ⟨m, hm⟩ := h0; exact DataW.trod_lt m _ _ _ hm
  have lt1 : ∀ x ∈ p1, x.block < W.heap.size := by obtain ⟨m, hm⟩ := h1; exact DataW.trod_lt m _ _ _ hm
  have hwt1 : (DataW.weightsEach Tryd.prog (Tryd.f4.params.toList ++ []) ([d0, d1] ++ [])).all (· ≤ reachBytes) = true := hwt
  rw [Tryd.params4] at hwt1
  have hwt2 := weights_two (t0 := 9) (t1 := 29) (d0 := d0) (d1 := d1) hwt1
  clear hA0 hval0
  have hm1 : ("unicode.CaseRanges", Rows.laid_unicode_CaseRanges) ∈ Rows.httpRequestsRow.laid := .tail _ (.tail _ (.tail _ (.head _)))
  have hm2 : ("unicode/utf8.first", Rows.laid_unicode_utf8_first) ∈ Rows.httpRequestsRow.laid := .tail _ (.tail _ (.tail _ (.tail _ (.head _))))
  have hm3 : ("unicode/utf8.acceptRanges", Rows.laid_unicode_utf8_acceptRanges) ∈ Rows.httpRequestsRow.laid := .head _
  refine (httpRequests_typed enc W base (hval 0 9 v0 rfl rfl) (hval 1 29 v1 rfl rfl) h0 h1 hwt2 (laid_of hL hm1 hm2 hm3 hsh)).mono fun e W' ⟨he, bel⟩ => ?_
  subst he
  exact ⟨_, rfl, _, _, _, [], _, [], hW', trodAll_mk1 (shut_bool Tryd.underlying4 _), (trodAll_cons_mk (Below.trod laidOut (by kernel_rfl) (of_decide_eq_true (by kernel_rfl)) h0 bel lt0) (trodAll_cons_mk (Below.trod laidOut (by kernel_rfl) (of_decide_eq_true (by kernel_rfl)) h1 bel lt1) trodAll_mk0)), rfl, bel.frame _, fun h => by cases h⟩
theorem over : Rows.httpRequestsRow.holds Tryd.pinned (OpenSpec.ofChange Rows.httpRequestsSpec) :=
  OpenClaim.holds_of_wide 4 Tryd.f4 rfl rfl rfl rfl rfl rfl rfl ⟨rfl, rfl, rfl, rfl, rfl⟩ rfl rfl rfl rfl rfl (by kernel_rfl) Tryd.func4 (by kernel_rfl)
    (of_decide_eq_true (by kernel_rfl)) (by unfold Func.isWrapper; first | (rw [if_pos (by decide +kernel)]; kernel_rfl) | (rw [if_neg (by decide +kernel)]; exact ⟨rfl, rfl⟩))
    (fun os started H enc _ => lifted os started H enc)
set_option maxRecDepth 100000 in
/-- THE STATEMENT. -/
theorem proved : Rows.HttpRequestsCardSaid :=
  Claim7.holds_tied_plain_at .later [] [.data, .data, .data, .pinned, .pinned] true (true, "fd7066596ec959437ce1fb6efed6376c2bbd8557ebf75388dab44e18f5e99e43") true
    over (fun _ h => by cases h) (by kernel_rfl) (fun _ h => by cases h) httpRequests_row_tie rfl ⟨rfl, rfl⟩ (by kernel_rfl) rfl
    (fun f fn hf hfn => by
      obtain rfl : f = 4 := Option.some.inj ((show Tryd.prog.funcNamed "culvert/culvertlaw22.HttpRequests" = some 4 by kernel_rfl).symm.trans hf) |>.symm
      obtain rfl : fn = Tryd.f4 := (Option.some.inj (Tryd.func4.symm.trans hfn)).symm
      refine ⟨by kernel_rfl, fun j t hj => ?_⟩
      rw [Tryd.params4] at hj
      match j, hj with
      | 0, hj =>
        obtain rfl : t = 9 := by simpa using hj.symm
        exact (by kernel_rfl : Tryd.pinned.checked.prog.wantsStandIn 9 = false)
      | 1, hj =>
        obtain rfl : t = 29 := by simpa using hj.symm
        exact (by kernel_rfl : Tryd.pinned.checked.prog.wantsStandIn 29 = false)
      | j + 2, hj => simp at hj)
    (by kernel_rfl)
#print axioms proved
end Go.Proofs.YtjppfdilfcokeaaDoor.httpRequests
