/-
  NARROWER THAN 'FOR EVERY INPUT', by the rows' own cells (each row's printed sentence says how): PolicySuffix: laid · PolicyWhere: laid · PolicyNames: laid · PolicyOrder: laid · PolicyCalls: laid · PolicyKnown: laid.
  DERIVED. THE GIVEN ROWS OF THIS SEAT. 6 by the template 'for every input the law returns true; each argument reads behind the call as it read before'; 0 by the template 'total and deterministic' (their statements: YtbmkdnkiojapbaaDoorTotals.lean).
  GIVEN WITH THE SEED: the statements are not yours to turn. If you find one false, say at which input.
  Laid BY PROGRAM, IN A SANDBOX (cutbox-rows.mjs): the forced cells as the released guide's own fill.sh prints them over the translation 1800b66583cf8a0f… (all of the seat's roots in one cut). By AI agents, Wed Nov 11 2026. No macro, syntax, notation, axiom, sorry.
-/
import Derived.Test.YtbmkdnkiojapbaaDoorChecked
import GoSem.PinnedTables
import GoSem.Claim
import GoSem.ClaimJoined
import GoSem.ClaimMapViews
import Derived.JoinedTies
import Derived.KernelRfl
namespace Go.Proofs.YtbmkdnkiojapbaaDoor
/- THE CELL 'sum', in the pinned program and in every row, IS THE sha256 OF THE DUMP (.gsa) THAT YtbmkdnkiojapbaaDoorProg.lean LOADS. Nothing in Lean hashes anything: it is a label: what it is worth is what the hold of that sum in a sandbox is worth. -/
noncomputable def Tryd.pinned : Pinned := { name := "ytbmkdnkiojapbaadoor", sum := "1800b66583cf8a0f6a3dc6611a7a2ca2601e614f099f837384ff4defe4c9fd33", checked := Tryd.checked }
namespace Rows
def none {H : Type} : Left H := { results := [], args := [] }

/- WHAT THE LISTED PACKAGE-LEVEL VARIABLES READ AS WHEN THE CALL BEGINS. Each datum BY PROGRAM (the guide's laid-datum.mjs) off the statement by which the dump's own 'gosem.cut.vars' lays the variable. In a bare row this is a premise. The card (YtbmkdnkiojapbaaDoorCards.lean) ties it to the program's text. -/
def laid_unicode_utf8_acceptRanges {H : Type} : DataW H := .agg [.agg [.lit (.int .u8 128), .lit (.int .u8 191)], .agg [.lit (.int .u8 160), .lit (.int .u8 191)], .agg [.lit (.int .u8 128), .lit (.int .u8 159)], .agg [.lit (.int .u8 144), .lit (.int .u8 191)], .agg [.lit (.int .u8 128), .lit (.int .u8 143)], .agg [.lit (.int .u8 0), .lit (.int .u8 0)], .agg [.lit (.int .u8 0), .lit (.int .u8 0)], .agg [.lit (.int .u8 0), .lit (.int .u8 0)], .agg [.lit (.int .u8 0), .lit (.int .u8 0)], .agg [.lit (.int .u8 0), .lit (.int .u8 0)], .agg [.lit (.int .u8 0), .lit (.int .u8 0)], .agg [.lit (.int .u8 0), .lit (.int .u8 0)], .agg [.lit (.int .u8 0), .lit (.int .u8 0)], .agg [.lit (.int .u8 0), .lit (.int .u8 0)], .agg [.lit (.int .u8 0), .lit (.int .u8 0)], .agg [.lit (.int .u8 0), .lit (.int .u8 0)]]
/-- One of Go's own tables, pinned by name: the form's constant. -/
def laid_unicode_CaseRanges : DataW Unit := Go.Pinned.caseRanges
/-- One of Go's own tables, pinned by name: the form's constant. -/
def laid_unicode_utf8_first : DataW Unit := Go.Pinned.utf8First

/-- 'culvertlaw24.PolicySuffix': WHATEVER THE INPUT: true; the input reads as it did. -/
def policySuffixSpec : ChangeSpec := { name := "policySuffix", fn := fun _ => fun
  | [d1, d2, d3, d4] => { results := [.lit (.bool true)], args := [d1, d2, d3, d4] }
  | _ => none }
def policySuffixRow : OpenClaim := { program := "ytbmkdnkiojapbaadoor", sum := "1800b66583cf8a0f6a3dc6611a7a2ca2601e614f099f837384ff4defe4c9fd33", func := "culvert/culvertlaw24.PolicySuffix", spec := "policySuffix", inPlace := ["internal/bytealg.CountString", "internal/bytealg.IndexByteString", "internal/bytealg.IndexString", "internal/abi.NoEscape", "internal/bytealg.MakeNoZero"], unfollowed := true, recurses := true, named := ["unicode/utf8.first", "unicode/utf8.acceptRanges", "internal/bytealg.MaxLen", "unicode.CaseRanges"], apart := false, laid := [("unicode/utf8.acceptRanges", laid_unicode_utf8_acceptRanges), ("unicode.CaseRanges", laid_unicode_CaseRanges), ("unicode/utf8.first", laid_unicode_utf8_first)] }
def PolicySuffixSaid : Prop := policySuffixRow.holds Tryd.pinned (OpenSpec.ofChange policySuffixSpec)

/-- ITS FALSE NEIGHBOUR: 'it returns false'. Refute it at one input. -/
def policySuffixWrong : ChangeSpec := { name := "policySuffix", fn := fun _ => fun
  | [d1, d2, d3, d4] => { results := [.lit (.bool false)], args := [d1, d2, d3, d4] }
  | _ => none }
def PolicySuffixWrongFalsely : Prop := policySuffixRow.holds Tryd.pinned (OpenSpec.ofChange policySuffixWrong)

/-- 'culvertlaw24.PolicyWhere': WHATEVER THE INPUT: true; the input reads as it did. -/
def policyWhereSpec : ChangeSpec := { name := "policyWhere", fn := fun _ => fun
  | [d1, d2, d3] => { results := [.lit (.bool true)], args := [d1, d2, d3] }
  | _ => none }
def policyWhereRow : OpenClaim := { program := "ytbmkdnkiojapbaadoor", sum := "1800b66583cf8a0f6a3dc6611a7a2ca2601e614f099f837384ff4defe4c9fd33", func := "culvert/culvertlaw24.PolicyWhere", spec := "policyWhere", inPlace := ["internal/bytealg.CountString", "internal/bytealg.IndexByteString", "internal/bytealg.IndexString", "internal/abi.NoEscape", "internal/bytealg.MakeNoZero"], unfollowed := true, recurses := true, named := ["unicode/utf8.first", "unicode/utf8.acceptRanges", "internal/bytealg.MaxLen", "unicode.CaseRanges"], apart := false, laid := [("unicode/utf8.acceptRanges", laid_unicode_utf8_acceptRanges), ("unicode.CaseRanges", laid_unicode_CaseRanges), ("unicode/utf8.first", laid_unicode_utf8_first)] }
def PolicyWhereSaid : Prop := policyWhereRow.holds Tryd.pinned (OpenSpec.ofChange policyWhereSpec)

/-- ITS FALSE NEIGHBOUR: 'it returns false'. Refute it at one input. -/
def policyWhereWrong : ChangeSpec := { name := "policyWhere", fn := fun _ => fun
  | [d1, d2, d3] => { results := [.lit (.bool false)], args := [d1, d2, d3] }
  | _ => none }
def PolicyWhereWrongFalsely : Prop := policyWhereRow.holds Tryd.pinned (OpenSpec.ofChange policyWhereWrong)

/-- 'culvertlaw24.PolicyNames': WHATEVER THE INPUT: true; the input reads as it did. -/
def policyNamesSpec : ChangeSpec := { name := "policyNames", fn := fun _ => fun
  | [d1, d2, d3] => { results := [.lit (.bool true)], args := [d1, d2, d3] }
  | _ => none }
def policyNamesRow : OpenClaim := { program := "ytbmkdnkiojapbaadoor", sum := "1800b66583cf8a0f6a3dc6611a7a2ca2601e614f099f837384ff4defe4c9fd33", func := "culvert/culvertlaw24.PolicyNames", spec := "policyNames", inPlace := ["internal/bytealg.CountString", "internal/bytealg.IndexByteString", "internal/bytealg.IndexString", "internal/abi.NoEscape", "internal/bytealg.MakeNoZero"], unfollowed := true, recurses := true, named := ["unicode/utf8.first", "unicode/utf8.acceptRanges", "internal/bytealg.MaxLen", "unicode.CaseRanges"], apart := false, laid := [("unicode/utf8.acceptRanges", laid_unicode_utf8_acceptRanges), ("unicode.CaseRanges", laid_unicode_CaseRanges), ("unicode/utf8.first", laid_unicode_utf8_first)] }
def PolicyNamesSaid : Prop := policyNamesRow.holds Tryd.pinned (OpenSpec.ofChange policyNamesSpec)

/-- ITS FALSE NEIGHBOUR: 'it returns false'. Refute it at one input. -/
def policyNamesWrong : ChangeSpec := { name := "policyNames", fn := fun _ => fun
  | [d1, d2, d3] => { results := [.lit (.bool false)], args := [d1, d2, d3] }
  | _ => none }
def PolicyNamesWrongFalsely : Prop := policyNamesRow.holds Tryd.pinned (OpenSpec.ofChange policyNamesWrong)

/-- 'culvertlaw24.PolicyOrder': WHATEVER THE INPUT: true; the input reads as it did. -/
def policyOrderSpec : ChangeSpec := { name := "policyOrder", fn := fun _ => fun
  | [d1, d2, d3, d4] => { results := [.lit (.bool true)], args := [d1, d2, d3, d4] }
  | _ => none }
def policyOrderRow : OpenClaim := { program := "ytbmkdnkiojapbaadoor", sum := "1800b66583cf8a0f6a3dc6611a7a2ca2601e614f099f837384ff4defe4c9fd33", func := "culvert/culvertlaw24.PolicyOrder", spec := "policyOrder", inPlace := ["internal/bytealg.CountString", "internal/bytealg.IndexByteString", "internal/bytealg.IndexString", "internal/abi.NoEscape", "internal/bytealg.MakeNoZero", "internal/bytealg.abigen_runtime_cmpstring"], unfollowed := true, recurses := true, named := ["unicode/utf8.first", "unicode/utf8.acceptRanges", "internal/bytealg.MaxLen", "unicode.CaseRanges"], apart := false, laid := [("unicode/utf8.acceptRanges", laid_unicode_utf8_acceptRanges), ("unicode.CaseRanges", laid_unicode_CaseRanges), ("unicode/utf8.first", laid_unicode_utf8_first)] }
def PolicyOrderSaid : Prop := policyOrderRow.holds Tryd.pinned (OpenSpec.ofChange policyOrderSpec)

/-- ITS FALSE NEIGHBOUR: 'it returns false'. Refute it at one input. -/
def policyOrderWrong : ChangeSpec := { name := "policyOrder", fn := fun _ => fun
  | [d1, d2, d3, d4] => { results := [.lit (.bool false)], args := [d1, d2, d3, d4] }
  | _ => none }
def PolicyOrderWrongFalsely : Prop := policyOrderRow.holds Tryd.pinned (OpenSpec.ofChange policyOrderWrong)

/-- 'culvertlaw24.PolicyCalls': WHATEVER THE INPUT: true; the input reads as it did. -/
def policyCallsSpec : ChangeSpec := { name := "policyCalls", fn := fun _ => fun
  | [d1, d2, d3] => { results := [.lit (.bool true)], args := [d1, d2, d3] }
  | _ => none }
def policyCallsRow : OpenClaim := { program := "ytbmkdnkiojapbaadoor", sum := "1800b66583cf8a0f6a3dc6611a7a2ca2601e614f099f837384ff4defe4c9fd33", func := "culvert/culvertlaw24.PolicyCalls", spec := "policyCalls", inPlace := ["internal/bytealg.CountString", "internal/bytealg.IndexByteString", "internal/bytealg.IndexString", "internal/abi.NoEscape", "internal/bytealg.MakeNoZero", "internal/bytealg.abigen_runtime_cmpstring"], unfollowed := true, recurses := true, named := ["unicode/utf8.first", "unicode/utf8.acceptRanges", "internal/bytealg.MaxLen", "unicode.CaseRanges"], apart := false, laid := [("unicode/utf8.acceptRanges", laid_unicode_utf8_acceptRanges), ("unicode.CaseRanges", laid_unicode_CaseRanges), ("unicode/utf8.first", laid_unicode_utf8_first)] }
def PolicyCallsSaid : Prop := policyCallsRow.holds Tryd.pinned (OpenSpec.ofChange policyCallsSpec)

/-- ITS FALSE NEIGHBOUR: 'it returns false'. Refute it at one input. -/
def policyCallsWrong : ChangeSpec := { name := "policyCalls", fn := fun _ => fun
  | [d1, d2, d3] => { results := [.lit (.bool false)], args := [d1, d2, d3] }
  | _ => none }
def PolicyCallsWrongFalsely : Prop := policyCallsRow.holds Tryd.pinned (OpenSpec.ofChange policyCallsWrong)

/-- 'culvertlaw24.PolicyKnown': WHATEVER THE INPUT: true; the input reads as it did. -/
def policyKnownSpec : ChangeSpec := { name := "policyKnown", fn := fun _ => fun
  | [] => { results := [.lit (.bool true)], args := [] }
  | _ => none }
def policyKnownRow : OpenClaim := { program := "ytbmkdnkiojapbaadoor", sum := "1800b66583cf8a0f6a3dc6611a7a2ca2601e614f099f837384ff4defe4c9fd33", func := "culvert/culvertlaw24.PolicyKnown", spec := "policyKnown", inPlace := ["internal/bytealg.CountString", "internal/bytealg.IndexByteString", "internal/bytealg.IndexString", "internal/abi.NoEscape", "internal/bytealg.MakeNoZero", "internal/bytealg.abigen_runtime_cmpstring"], unfollowed := true, recurses := true, named := ["unicode/utf8.first", "unicode/utf8.acceptRanges", "internal/bytealg.MaxLen", "unicode.CaseRanges"], apart := false, laid := [("unicode/utf8.acceptRanges", laid_unicode_utf8_acceptRanges), ("unicode.CaseRanges", laid_unicode_CaseRanges), ("unicode/utf8.first", laid_unicode_utf8_first)] }
def PolicyKnownSaid : Prop := policyKnownRow.holds Tryd.pinned (OpenSpec.ofChange policyKnownSpec)

/-- ITS FALSE NEIGHBOUR: 'it returns false'. Refute it at one input. -/
def policyKnownWrong : ChangeSpec := { name := "policyKnown", fn := fun _ => fun
  | [] => { results := [.lit (.bool false)], args := [] }
  | _ => none }
def PolicyKnownWrongFalsely : Prop := policyKnownRow.holds Tryd.pinned (OpenSpec.ofChange policyKnownWrong)

/- THE SECOND FORM. 'bulk': how many values and letters a reading holds, each counted each time it is reached (what is shared counts as often as it is met; a slice's spare places count too). A statement '..UptoSaid' is the law's where the arguments, and the package variables that the reading takes, are together of bulk at most 1048576: NARROWER than '..Said'. Prove '..Said' where nothing that the law and all that it calls make is longer than what came in: it says more and counts as full. Else prove '..UptoSaid'. A law counts once. -/
mutual
def uptoBulk {H : Type} : DataW H → Nat
  | .lit (.string bytes) => bytes.length + 1
  | .lit _ => 1
  | .nil => 1
  | .ptr d => uptoBulk d + 1
  | .slice elems spare => uptoBulkAll elems + uptoBulkAll spare + 1
  | .agg parts => uptoBulkAll parts + 1
  | .iface _ d => uptoBulk d + 1
  | .map entries => uptoBulkEntries entries + 1
  | .held _ => 1
def uptoBulkAll {H : Type} : List (DataW H) → Nat
  | [] => 0
  | d :: r => uptoBulk d + uptoBulkAll r
def uptoBulkEntries {H : Type} : List (Lit × DataW H) → Nat
  | [] => 0
  | x :: r => uptoBulkEntry x + uptoBulkEntries r
def uptoBulkEntry {H : Type} : Lit × DataW H → Nat
  | (.string bytes, d) => bytes.length + uptoBulk d + 1
  | (_, d) => uptoBulk d + 1
 end
def uptoSmall : (H : Type) → List (DataW H) → Bool := fun _ ds => decide (uptoBulkAll ds ≤ 1048576)
def OpenSpec.upto (s : _root_.Go.ChangeSpec) : _root_.Go.OpenSpec := { _root_.Go.OpenSpec.ofChange s with cond := some uptoSmall }

/-- 'culvertlaw24.PolicySuffix', WHERE WHAT IT READS IS OF BULK AT MOST 1048576: true; the input reads as it did. -/
def policySuffixUptoRow : OpenClaim := { program := "ytbmkdnkiojapbaadoor", sum := "1800b66583cf8a0f6a3dc6611a7a2ca2601e614f099f837384ff4defe4c9fd33", func := "culvert/culvertlaw24.PolicySuffix", spec := "policySuffix", inPlace := ["internal/bytealg.CountString", "internal/bytealg.IndexByteString", "internal/bytealg.IndexString", "internal/abi.NoEscape", "internal/bytealg.MakeNoZero"], unfollowed := true, recurses := true, named := ["unicode/utf8.first", "unicode/utf8.acceptRanges", "internal/bytealg.MaxLen", "unicode.CaseRanges"], apart := false, laid := [("unicode/utf8.acceptRanges", laid_unicode_utf8_acceptRanges), ("unicode.CaseRanges", laid_unicode_CaseRanges), ("unicode/utf8.first", laid_unicode_utf8_first)], narrowed := true }
def PolicySuffixUptoSaid : Prop := policySuffixUptoRow.holds Tryd.pinned (OpenSpec.upto policySuffixSpec)

/-- 'culvertlaw24.PolicyWhere', WHERE WHAT IT READS IS OF BULK AT MOST 1048576: true; the input reads as it did. -/
def policyWhereUptoRow : OpenClaim := { program := "ytbmkdnkiojapbaadoor", sum := "1800b66583cf8a0f6a3dc6611a7a2ca2601e614f099f837384ff4defe4c9fd33", func := "culvert/culvertlaw24.PolicyWhere", spec := "policyWhere", inPlace := ["internal/bytealg.CountString", "internal/bytealg.IndexByteString", "internal/bytealg.IndexString", "internal/abi.NoEscape", "internal/bytealg.MakeNoZero"], unfollowed := true, recurses := true, named := ["unicode/utf8.first", "unicode/utf8.acceptRanges", "internal/bytealg.MaxLen", "unicode.CaseRanges"], apart := false, laid := [("unicode/utf8.acceptRanges", laid_unicode_utf8_acceptRanges), ("unicode.CaseRanges", laid_unicode_CaseRanges), ("unicode/utf8.first", laid_unicode_utf8_first)], narrowed := true }
def PolicyWhereUptoSaid : Prop := policyWhereUptoRow.holds Tryd.pinned (OpenSpec.upto policyWhereSpec)

/-- 'culvertlaw24.PolicyNames', WHERE WHAT IT READS IS OF BULK AT MOST 1048576: true; the input reads as it did. -/
def policyNamesUptoRow : OpenClaim := { program := "ytbmkdnkiojapbaadoor", sum := "1800b66583cf8a0f6a3dc6611a7a2ca2601e614f099f837384ff4defe4c9fd33", func := "culvert/culvertlaw24.PolicyNames", spec := "policyNames", inPlace := ["internal/bytealg.CountString", "internal/bytealg.IndexByteString", "internal/bytealg.IndexString", "internal/abi.NoEscape", "internal/bytealg.MakeNoZero"], unfollowed := true, recurses := true, named := ["unicode/utf8.first", "unicode/utf8.acceptRanges", "internal/bytealg.MaxLen", "unicode.CaseRanges"], apart := false, laid := [("unicode/utf8.acceptRanges", laid_unicode_utf8_acceptRanges), ("unicode.CaseRanges", laid_unicode_CaseRanges), ("unicode/utf8.first", laid_unicode_utf8_first)], narrowed := true }
def PolicyNamesUptoSaid : Prop := policyNamesUptoRow.holds Tryd.pinned (OpenSpec.upto policyNamesSpec)

/-- 'culvertlaw24.PolicyOrder', WHERE WHAT IT READS IS OF BULK AT MOST 1048576: true; the input reads as it did. -/
def policyOrderUptoRow : OpenClaim := { program := "ytbmkdnkiojapbaadoor", sum := "1800b66583cf8a0f6a3dc6611a7a2ca2601e614f099f837384ff4defe4c9fd33", func := "culvert/culvertlaw24.PolicyOrder", spec := "policyOrder", inPlace := ["internal/bytealg.CountString", "internal/bytealg.IndexByteString", "internal/bytealg.IndexString", "internal/abi.NoEscape", "internal/bytealg.MakeNoZero", "internal/bytealg.abigen_runtime_cmpstring"], unfollowed := true, recurses := true, named := ["unicode/utf8.first", "unicode/utf8.acceptRanges", "internal/bytealg.MaxLen", "unicode.CaseRanges"], apart := false, laid := [("unicode/utf8.acceptRanges", laid_unicode_utf8_acceptRanges), ("unicode.CaseRanges", laid_unicode_CaseRanges), ("unicode/utf8.first", laid_unicode_utf8_first)], narrowed := true }
def PolicyOrderUptoSaid : Prop := policyOrderUptoRow.holds Tryd.pinned (OpenSpec.upto policyOrderSpec)

/-- 'culvertlaw24.PolicyCalls', WHERE WHAT IT READS IS OF BULK AT MOST 1048576: true; the input reads as it did. -/
def policyCallsUptoRow : OpenClaim := { program := "ytbmkdnkiojapbaadoor", sum := "1800b66583cf8a0f6a3dc6611a7a2ca2601e614f099f837384ff4defe4c9fd33", func := "culvert/culvertlaw24.PolicyCalls", spec := "policyCalls", inPlace := ["internal/bytealg.CountString", "internal/bytealg.IndexByteString", "internal/bytealg.IndexString", "internal/abi.NoEscape", "internal/bytealg.MakeNoZero", "internal/bytealg.abigen_runtime_cmpstring"], unfollowed := true, recurses := true, named := ["unicode/utf8.first", "unicode/utf8.acceptRanges", "internal/bytealg.MaxLen", "unicode.CaseRanges"], apart := false, laid := [("unicode/utf8.acceptRanges", laid_unicode_utf8_acceptRanges), ("unicode.CaseRanges", laid_unicode_CaseRanges), ("unicode/utf8.first", laid_unicode_utf8_first)], narrowed := true }
def PolicyCallsUptoSaid : Prop := policyCallsUptoRow.holds Tryd.pinned (OpenSpec.upto policyCallsSpec)

/-- 'culvertlaw24.PolicyKnown', WHERE WHAT IT READS IS OF BULK AT MOST 1048576: true; the input reads as it did. -/
def policyKnownUptoRow : OpenClaim := { program := "ytbmkdnkiojapbaadoor", sum := "1800b66583cf8a0f6a3dc6611a7a2ca2601e614f099f837384ff4defe4c9fd33", func := "culvert/culvertlaw24.PolicyKnown", spec := "policyKnown", inPlace := ["internal/bytealg.CountString", "internal/bytealg.IndexByteString", "internal/bytealg.IndexString", "internal/abi.NoEscape", "internal/bytealg.MakeNoZero", "internal/bytealg.abigen_runtime_cmpstring"], unfollowed := true, recurses := true, named := ["unicode/utf8.first", "unicode/utf8.acceptRanges", "internal/bytealg.MaxLen", "unicode.CaseRanges"], apart := false, laid := [("unicode/utf8.acceptRanges", laid_unicode_utf8_acceptRanges), ("unicode.CaseRanges", laid_unicode_CaseRanges), ("unicode/utf8.first", laid_unicode_utf8_first)], narrowed := true }
def PolicyKnownUptoSaid : Prop := policyKnownUptoRow.holds Tryd.pinned (OpenSpec.upto policyKnownSpec)

end Rows
end Go.Proofs.YtbmkdnkiojapbaaDoor
