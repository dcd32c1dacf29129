/-
  Package conn's laid variables out of the row's condition; a world in which they lie, for the frames. No condition.
-/
import Derived.Test.YtocnkiojlifgpaaGreatDoorCnB
import Derived.Lib.LaidTab
import Derived.Test.YtocnkiojlifgpaaGreatDoorRows
import Derived.ProofKit
import Derived.OpenShut
import Derived.Lib.SmallJoins
import Derived.PinnedBridge
import Derived.Lib.LaidCase
import Derived.Lib.LaidU8
import Derived.HandedShaped
import Derived.ChangeMaps5
import Derived.Shelf.Vars
import Derived.Lib.LaidCaseMet
import Derived.Handed
import Derived.LaidLaws
import Derived.SizedLaws
namespace Go.Proofs.YtocnkiojlifgpaaGreatDoor
open Go.RowKit Go.ChangeShapes Go.WideShapes Go.ChangeAt Go.Joins Go.Lib
set_option linter.unusedVariables false
set_option linter.unusedSimpArgs false

theorem Tryz.caseX : CaseExtra Tryz.prog Tryz.lowerL_ren := {
  n13 := by kernel_rfl,
  y13 := by kernel_rfl,
  c21 := by kernel_rfl,
  c51 := by kernel_rfl,
  c206 := by kernel_rfl,
  c208 := by kernel_rfl }
theorem Tryz.utf8X : U8Extra Tryz.prog Tryz.lowerL_ren := {
  n3 := by kernel_rfl,
  n4 := by kernel_rfl,
  y3 := by kernel_rfl,
  y4 := by kernel_rfl,
  c5 := by kernel_rfl,
  c119 := by kernel_rfl,
  c138 := by kernel_rfl }
theorem Tryz.gT : Tryz.prog.globalNamed "culvert/cookie.classes" = some 0 := by kernel_rfl
theorem Tryz.gTType : (Tryz.prog.globals[0]?).map (·.type) = some 172 := by kernel_rfl
theorem Tryz.cgu : Tryz.prog.cellsOf 22 = 1 := by kernel_rfl
theorem Tryz.cga : Tryz.prog.cellsOf 172 = 8 := by kernel_rfl
theorem classes_of {W : World} (h : VarReads Tryz.prog W "culvert/cookie.classes" Rows.laid_culvert_cookie_classes) : Laid W := by
  obtain ⟨g', t', cs, fuel, p, hg', ht', hvar, hd⟩ := h
  obtain rfl := Option.some.inj (Tryz.gT.symm.trans hg')
  obtain rfl := Option.some.inj (Tryz.gTType.symm.trans ht')
  have hT : TabIs Tryz.prog W "culvert/cookie.classes" .u16 tab := by
    unfold TabIs
    rw [hvar, ← cells_of_tab Tryz.underlying172 Tryz.underlying22 Tryz.cgu Tryz.cga (zs := tab) hd]
  intro k hk
  exact hT.cell Tryz.gT k hk
set_option maxRecDepth 100000 in
theorem laid_lw {W : World} {l : List (String × DataW Unit)} (h : laidMet Tryz.prog l W) (h1 : ("unicode.CaseRanges", Rows.laid_unicode_CaseRanges) ∈ l) (h2 : ("unicode/utf8.first", Rows.laid_unicode_utf8_first) ∈ l) (h3 : ("unicode/utf8.acceptRanges", Rows.laid_unicode_utf8_acceptRanges) ∈ l) (hs : W.ShapedOpen Tryz.prog) : LW W where
  maxl := Tryz.splitL.s1_3 W hs
  case := by
    have h0 := laidMet.reads h h1
    have e : Rows.laid_unicode_CaseRanges = caseData := Pinned.caseRanges_eq
    rw [e] at h0
    exact caseVar_of_reads (ρ := Tryz.lowerL_ren) { Tryz.lowerL with } (by kernel_rfl) Tryz.caseX h0
  utf8 := by
    have h0 := laidMet.reads h h2
    have e : Rows.laid_unicode_utf8_first = firstData := Pinned.utf8First_eq
    rw [e] at h0
    have h4 := laidMet.reads h h3
    have e2 : Rows.laid_unicode_utf8_acceptRanges = acceptData := by kernel_rfl
    rw [e2] at h4
    exact utf8Tabs_of_reads (ρ := Tryz.lowerL_ren) { Tryz.lowerL with } Tryz.utf8X h0 h4
theorem laid_of {W : World} {l : List (String × DataW Unit)} (h : laidMet Tryz.prog l W) (h1 : ("unicode.CaseRanges", Rows.laid_unicode_CaseRanges) ∈ l) (h2 : ("unicode/utf8.first", Rows.laid_unicode_utf8_first) ∈ l) (h3 : ("unicode/utf8.acceptRanges", Rows.laid_unicode_utf8_acceptRanges) ∈ l) (h4 : ("culvert/cookie.classes", Rows.laid_culvert_cookie_classes) ∈ l) (hs : W.ShapedOpen Tryz.prog) : CW W :=
  ⟨laid_lw h h1 h2 h3 hs, classes_of (laidMet.reads h h4)⟩
def foldCells : Array Value := (#[0, 1, 2, 3, 4, 5, 6, 7, 8, 9, 10, 11, 12, 13, 14, 15, 16, 17, 18, 19, 20, 21, 22, 23, 24, 25, 26, 27, 28, 29, 30, 31, 32, 33, 34, 35, 36, 37, 38, 39, 40, 41, 42, 43, 44, 45, 46, 47, 48, 49, 50, 51, 52, 53, 54, 55, 56, 57, 58, 59, 60, 61, 62, 63, 64, 97, 98, 99, 100, 101, 102, 103, 104, 105, 106, 107, 108, 109, 110, 111, 112, 113, 114, 115, 116, 117, 118, 119, 120, 121, 122, 91, 92, 93, 94, 95, 96, 65, 66, 67, 68, 69, 70, 71, 72, 73, 74, 8490, 76, 77, 78, 79, 80, 81, 82, 383, 84, 85, 86, 87, 88, 89, 90, 123, 124, 125, 126, 127] : Array Int).map (fun z => Value.int .u16 z)
def orbitCells : Array Value := (#[75, 107, 83, 115, 107, 8490, 115, 383, 181, 924, 197, 229, 223, 7838, 229, 8491, 304, 304, 305, 305, 383, 83, 452, 453, 453, 454, 454, 452, 455, 456, 456, 457, 457, 455, 458, 459, 459, 460, 460, 458, 497, 498, 498, 499, 499, 497, 837, 921, 912, 8147, 914, 946, 917, 949, 920, 952, 921, 953, 922, 954, 924, 956, 928, 960, 929, 961, 931, 962, 934, 966, 937, 969, 944, 8163, 946, 976, 949, 1013, 952, 977, 953, 8126, 954, 1008, 956, 181, 960, 982, 961, 1009, 962, 963, 963, 931, 966, 981, 969, 8486, 976, 914, 977, 1012, 981, 934, 982, 928, 1008, 922, 1009, 929, 1012, 920, 1013, 917, 1042, 1074, 1044, 1076, 1054, 1086, 1057, 1089, 1058, 1090, 1066, 1098, 1074, 7296, 1076, 7297, 1086, 7298, 1089, 7299, 1090, 7300, 1098, 7302, 1122, 1123, 1123, 7303, 7296, 1042, 7297, 1044, 7298, 1054, 7299, 1057, 7300, 7301, 7301, 1058, 7302, 1066, 7303, 1122, 7304, 42570, 7776, 7777, 7777, 7835, 7835, 7776, 7838, 223, 8126, 837, 8147, 912, 8163, 944, 8486, 937, 8490, 75, 8491, 197, 42570, 42571, 42571, 7304, 64261, 64262, 64262, 64261] : Array Int).map (fun z => Value.int .u16 z)
noncomputable def tabWorld (os : Os) : World :=
  let N := (World.settled Tryz.prog os).heap.size
  let w0 := World.holding Tryz.prog os ⟨#[.cells Lib.caseCells5 (Tryz.lowerL_ren.t 208), .cells orbitCells 196], #[], []⟩
  let put (h : Array Obj) (g : Nat) (cs : Array Value) : Array Obj := h.modify g fun
    | .cells _ t frozen => .cells cs t frozen
    | o => o
  let h2 := put w0.heap (Tryz.lowerL_ren.g 3) (Lib.firstTab.map fun z => Value.int .u8 z).toArray
  let h3 := put h2 (Tryz.lowerL_ren.g 4) ((List.range 16).flatMap fun i => [Value.int .u8 (Lib.accLo i), Value.int .u8 (Lib.accHi i)]).toArray
  let h4 := put h3 1 foldCells
  let h5 := put h4 2 #[.slice (some ⟨N + 1, 0, none⟩) 94 94]
  let h6 := put h5 (Tryz.lowerL_ren.g 13) #[.slice (some ⟨N, 0, none⟩) 336 336]
  let h7 := put h6 0 (tab.map fun z => Value.int .u16 z).toArray
  { w0 with heap := h7 }
set_option maxRecDepth 100000 in
theorem laid_met0 (os : Os) (args : Array Value) : laidMet Tryz.prog ([("unicode/utf8.acceptRanges", Lib.acceptData), ("culvert/cookie.classes", Rows.laid_culvert_cookie_classes), ("unicode.asciiFold", Rows.laid_unicode_asciiFold), ("unicode.caseOrbit", Rows.laid_unicode_caseOrbit), ("unicode/utf8.first", Lib.firstData)] ++ [("unicode.CaseRanges", caseData)]) ((tabWorld os).forCall (fun _ _ => 0) ⟨#[], args, []⟩).memory :=
  laidMet_with_case (ρ := Tryz.lowerL_ren) { Tryz.lowerL with } (by kernel_rfl) Tryz.caseX
    (l := [("unicode/utf8.acceptRanges", Lib.acceptData), ("culvert/cookie.classes", Rows.laid_culvert_cookie_classes), ("unicode.asciiFold", Rows.laid_unicode_asciiFold), ("unicode.caseOrbit", Rows.laid_unicode_caseOrbit), ("unicode/utf8.first", Lib.firstData)])
    10 (by kernel_rfl) (by kernel_rfl) (by kernel_rfl) ((World.settled Tryz.prog default).heap.size) (Tryz.lowerL_ren.t 208) (of_decide_eq_true (by kernel_rfl)) (by kernel_rfl) (by kernel_rfl) (by kernel_rfl)
theorem laidMet_swap {P : Program} {w : World} {x0 xc x1 x y z : String × DataW Unit} (h : laidMet P [x0, xc, x1, x, y, z] w) : laidMet P [x0, xc, x1, x, z, y] w := by
  obtain ⟨n4, e4⟩ := x0
  obtain ⟨n6, e6⟩ := xc
  obtain ⟨n5, e5⟩ := x1
  obtain ⟨n1, e1⟩ := x
  obtain ⟨n2, e2⟩ := y
  obtain ⟨n3, e3⟩ := z
  obtain ⟨ps, hv, hn, hc⟩ := h
  obtain ⟨g4, t4, cs4, f4, p4, q4, a4, b4, c4, d4, ⟨g6, t6, cs6, f6, p6, q6, a6, b6, c6, d6, ⟨g5, t5, cs5, f5, p5, q5, a5, b5, c5, d5, ⟨g1, t1, cs1, f1, p1, q1, a1, b1, c1, d1, ⟨g2, t2, cs2, f2, p2, q2, a2, b2, c2, d2, ⟨g3, t3, cs3, f3, p3, q3, a3, b3, c3, d3, hq, r3⟩, r2⟩, r1⟩, r5⟩, r6⟩, r4⟩ := hv
  have hq' : q3 = [] := hq
  subst hq'
  subst r3 r2 r1 r5 r6 r4
  have hp0 : (MemPlace.row ⟨g1, 0, none⟩ cs1.size ++ p1 ++ (MemPlace.row ⟨g2, 0, none⟩ cs2.size ++ p2 ++ (MemPlace.row ⟨g3, 0, none⟩ cs3.size ++ p3 ++ []))).Perm (MemPlace.row ⟨g1, 0, none⟩ cs1.size ++ p1 ++ (MemPlace.row ⟨g3, 0, none⟩ cs3.size ++ p3 ++ (MemPlace.row ⟨g2, 0, none⟩ cs2.size ++ p2 ++ []))) := by
    refine List.Perm.append_left _ ?_
    rw [List.append_nil, List.append_nil]
    exact List.perm_append_comm
  have hp := List.Perm.append_left (MemPlace.row ⟨g4, 0, none⟩ cs4.size ++ p4) (List.Perm.append_left (MemPlace.row ⟨g6, 0, none⟩ cs6.size ++ p6) (List.Perm.append_left (MemPlace.row ⟨g5, 0, none⟩ cs5.size ++ p5) hp0))
  refine ⟨_, ⟨g4, t4, cs4, f4, p4, _, a4, b4, c4, d4, ⟨g6, t6, cs6, f6, p6, _, a6, b6, c6, d6, ⟨g5, t5, cs5, f5, p5, _, a5, b5, c5, d5, ⟨g1, t1, cs1, f1, p1, _, a1, b1, c1, d1, ⟨g3, t3, cs3, f3, p3, _, a3, b3, c3, d3, ⟨g2, t2, cs2, f2, p2, [], a2, b2, c2, d2, rfl, rfl⟩, rfl⟩, rfl⟩, rfl⟩, rfl⟩, rfl⟩, hp.nodup_iff.1 hn, fun b off hm => hc b off (hp.mem_iff.2 hm)⟩
set_option maxRecDepth 100000 in
theorem laid_met (os : Os) (args : Array Value) : laidMet Tryz.prog [("unicode/utf8.acceptRanges", Rows.laid_unicode_utf8_acceptRanges), ("culvert/cookie.classes", Rows.laid_culvert_cookie_classes), ("unicode.asciiFold", Rows.laid_unicode_asciiFold), ("unicode.caseOrbit", Rows.laid_unicode_caseOrbit), ("unicode.CaseRanges", Rows.laid_unicode_CaseRanges), ("unicode/utf8.first", Rows.laid_unicode_utf8_first)] ((tabWorld os).forCall (fun _ _ => 0) ⟨#[], args, []⟩).memory := by
  have e1 : Rows.laid_unicode_CaseRanges = caseData := Pinned.caseRanges_eq
  have e2 : Rows.laid_unicode_utf8_first = firstData := Pinned.utf8First_eq
  have e3 : Rows.laid_unicode_utf8_acceptRanges = acceptData := by kernel_rfl
  rw [e1, e2, e3]
  exact laidMet_swap (laid_met0 os args)
theorem handed_and_shaped {H : Type} {enc : TypeId × Value → H} {a : Assume} {C : Checked} {os : Os} {f : FuncId} {fn : Func} {s : ChangeSpec} {conds : List PathCond} {apart fresh handsOn again : Bool} {X : World → Array Value → Prop}
    (hX : ∀ (w w' : World) (args : Array Value), w.heap = w'.heap → X w args → X w' args)
    (own : ownKnob C.prog.godebug = none) (started : os.Started) (noInit : C.prog.inits.idxOf? f = none) (hfn : C.prog.funcs[f]? = some fn)
    (witness : ∃ (w : World) (tape : Tape) (i : Input), w.os = os ∧ (w.forCall tape i).Shaped C.prog ∧ i.vars = [] ∧ Input.okWide C.prog (w.forCall tape i) .any w.heap.size f i ∧
      ((s.pre enc C.prog fn conds apart (w.forCall tape i).memory i.args ∧ X (w.forCall tape i).memory i.args) ∧ sizedMet enc C.prog fn (OpenSpec.ofChange s) apart (w.forCall tape i).memory i.args) ∧ a.holds C.prog (lone (Frame.enter C.prog f i.args .normal) [] (w.forCall tape i)))
    (contract : ∀ (W : World) (base : Nat) (args : Array Value) (ds gs : List (DataW H)) (before : List MemPlace),
      (∀ (j : Nat) t v, fn.params[j]? = some t → args[j]? = some v → Value.okWide C.prog W .any base t v) →
      DataW.Whole enc C.prog fn.params.toList s.vars apart W args.toList ds gs before →
      conds.all (PathCond.test C.prog ⟨fn.params.toList, ds, s.plain.varTypes C.prog, gs⟩) = true →
      (DataW.weightsEach C.prog (fn.params.toList ++ s.plain.varTypes C.prog) (ds ++ gs)).all (· ≤ reachBytes) = true → X W args →
      W.ShapedOpen C.prog →
      Calls C.prog f args W fun e W' => ∃ v, e = .returned v ∧ s.post enc C.prog fn apart fresh handsOn again W args v W') :
    ReturnsInHanded a C os f .any (fun w args => (s.pre enc C.prog fn conds apart w args ∧ X w args) ∧ sizedMet enc C.prog fn (OpenSpec.ofChange s) apart w args) (s.post enc C.prog fn apart fresh handsOn again) := by
  refine returnsInHanded_of_calls own started noInit witness ?_
  intro w tape i _ hsh _ hok hpre hholds
  obtain ⟨_, _, _, fn', hfn', _, _, _, _, hval⟩ := hok
  have e : fn' = fn := Option.some.inj (hfn'.symm.trans hfn)
  subst e
  obtain ⟨⟨⟨ds, gs, before, hw, hc⟩, hx⟩, hz⟩ := hpre
  have hw' := DataW.Whole.of_heap (w' := w.forCall tape i) (by rfl) hw
  refine (contract (w.forCall tape i) w.heap.size i.args ds gs before hval hw' hc (hz.weights hw) (hX _ _ _ (by rfl) hx) hsh).mono fun e W' ⟨v, he, hp⟩ => ?_
  subst he
  exact ChangeSpec.post_blind hp
theorem witness_atRef {H : Type} {enc : TypeId × Value → H} {C : Checked} {os : Os} {f : FuncId} {fn : Func} {s : ChangeSpec} {conds : List PathCond} {apart : Bool} {X : World → Array Value → Prop} (modest : Bool) (w0 : World) (args : Array Value) (fuel : Nat) (hos : w0.os = os)
    (hv : (w0.forCall (fun _ _ => 0) ⟨#[], args, []⟩).variablesRefB C.prog = true)
    (hr : ((w0.forCall (fun _ _ => 0) ⟨#[], args, []⟩).heap.toList.drop C.prog.globals.size).take ((begin C.prog (fun _ _ => 0) default).world.heap.size - C.prog.globals.size) =
      (begin C.prog (fun _ _ => 0) default).world.heap.toList.drop C.prog.globals.size)
    (hok : Input.okWideB C.prog (w0.forCall (fun _ _ => 0) ⟨#[], args, []⟩) f ⟨#[], args, []⟩ = true)
    (hpre : s.preB enc C.prog fn conds apart (w0.forCall (fun _ _ => 0) ⟨#[], args, []⟩).memory args fuel = true)
    (hsz : s.sizedB enc C.prog fn apart (w0.forCall (fun _ _ => 0) ⟨#[], args, []⟩).memory args fuel = true)
    (hx : X (w0.forCall (fun _ _ => 0) ⟨#[], args, []⟩).memory args) :
    ∃ (w : World) (tape : Tape) (i : Input), w.os = os ∧ (w.forCall tape i).Shaped C.prog ∧ i.vars = [] ∧ Input.okWide C.prog (w.forCall tape i) .any w.heap.size f i ∧
      ((s.pre enc C.prog fn conds apart (w.forCall tape i).memory i.args ∧ X (w.forCall tape i).memory i.args) ∧ sizedMet enc C.prog fn (OpenSpec.ofChange s) apart (w.forCall tape i).memory i.args) ∧ ({ modest := modest } : Assume).holds C.prog (lone (Frame.enter C.prog f i.args .normal) [] (w.forCall tape i)) :=
  ⟨w0, fun _ _ => 0, ⟨#[], args, []⟩, hos, World.shaped_of_RefB hv hr, (Input.okWide_of_okWideB (base := 0) hok).1, (Input.okWide_of_okWideB hok).2, ⟨⟨ChangeSpec.pre_of_preB hpre, hx⟩, sizedMet_of_sizedB hsz⟩, by
    simp only [Assume.holds]
    exact ⟨by simp, by simp, fun _ => Modest.zero, by simp, by simp⟩⟩
end Go.Proofs.YtocnkiojlifgpaaGreatDoor
