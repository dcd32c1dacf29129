/-
  NARROWER THAN 'FOR EVERY INPUT', by the rows' own cells (each row's printed sentence says how): TlsComes: laid · TlsStays: laid · TlsHellos: laid · TlsFolds: laid · TlsKnown: laid.
  DERIVED. THE GIVEN ROWS OF THIS SEAT. 5 by the template 'for every input the law returns true; each argument reads behind the call as it read before'; 0 by the template 'total and deterministic' (their statements: YthcpeceamiibaaaDoorTotals.lean).
  GIVEN WITH THE SEED: the statements are not yours to turn. If you find one false, say at which input.
  Laid BY PROGRAM, IN A SANDBOX (cutbox-rows.mjs): the forced cells as the released guide's own fill.sh prints them over the translation 9be5278a34477088… (all of the seat's roots in one cut). By AI agents, Wed Nov 11 2026. No macro, syntax, notation, axiom, sorry.
-/
import Derived.Test.YthcpeceamiibaaaDoorChecked
import GoSem.PinnedTables
import GoSem.Claim
import GoSem.ClaimJoined
import GoSem.ClaimMapViews
import Derived.JoinedTies
import Derived.KernelRfl
namespace Go.Proofs.YthcpeceamiibaaaDoor
/- THE CELL 'sum', in the pinned program and in every row, IS THE sha256 OF THE DUMP (.gsa) THAT YthcpeceamiibaaaDoorProg.lean LOADS. Nothing in Lean hashes anything: it is a label: what it is worth is what the hold of that sum in a sandbox is worth. -/
noncomputable def Tryd.pinned : Pinned := { name := "ythcpeceamiibaaadoor", sum := "9be5278a3447708868a75e3ebe14dd6ab0622d26afd22a218d41bdf31f6e4640", checked := Tryd.checked }
namespace Rows
def none {H : Type} : Left H := { results := [], args := [] }

/- WHAT THE LISTED PACKAGE-LEVEL VARIABLES READ AS WHEN THE CALL BEGINS. Each datum BY PROGRAM (the guide's laid-datum.mjs) off the statement by which the dump's own 'gosem.cut.vars' lays the variable. In a bare row this is a premise. The card (YthcpeceamiibaaaDoorCards.lean) ties it to the program's text. -/
def laid_unicode_utf8_acceptRanges {H : Type} : DataW H := .agg [.agg [.lit (.int .u8 128), .lit (.int .u8 191)], .agg [.lit (.int .u8 160), .lit (.int .u8 191)], .agg [.lit (.int .u8 128), .lit (.int .u8 159)], .agg [.lit (.int .u8 144), .lit (.int .u8 191)], .agg [.lit (.int .u8 128), .lit (.int .u8 143)], .agg [.lit (.int .u8 0), .lit (.int .u8 0)], .agg [.lit (.int .u8 0), .lit (.int .u8 0)], .agg [.lit (.int .u8 0), .lit (.int .u8 0)], .agg [.lit (.int .u8 0), .lit (.int .u8 0)], .agg [.lit (.int .u8 0), .lit (.int .u8 0)], .agg [.lit (.int .u8 0), .lit (.int .u8 0)], .agg [.lit (.int .u8 0), .lit (.int .u8 0)], .agg [.lit (.int .u8 0), .lit (.int .u8 0)], .agg [.lit (.int .u8 0), .lit (.int .u8 0)], .agg [.lit (.int .u8 0), .lit (.int .u8 0)], .agg [.lit (.int .u8 0), .lit (.int .u8 0)]]
/-- One of Go's own tables, pinned by name: the form's constant. -/
def laid_unicode_CaseRanges : DataW Unit := Go.Pinned.caseRanges
/-- One of Go's own tables, pinned by name: the form's constant. -/
def laid_unicode_utf8_first : DataW Unit := Go.Pinned.utf8First

/-- 'culvertlaw21.TlsComes': WHATEVER THE INPUT: true; the input reads as it did. -/
def tlsComesSpec : ChangeSpec := { name := "tlsComes", fn := fun _ => fun
  | [d1, d2] => { results := [.lit (.bool true)], args := [d1, d2] }
  | _ => none }
def tlsComesRow : OpenClaim := { program := "ythcpeceamiibaaadoor", sum := "9be5278a3447708868a75e3ebe14dd6ab0622d26afd22a218d41bdf31f6e4640", func := "culvert/culvertlaw21.TlsComes", spec := "tlsComes", inPlace := ["internal/bytealg.CountString", "internal/bytealg.IndexByteString", "internal/bytealg.IndexString", "internal/abi.NoEscape", "internal/bytealg.MakeNoZero"], unfollowed := true, recurses := true, named := ["unicode/utf8.first", "unicode/utf8.acceptRanges", "internal/bytealg.MaxLen", "unicode.CaseRanges"], apart := false, laid := [("unicode/utf8.acceptRanges", laid_unicode_utf8_acceptRanges), ("unicode.CaseRanges", laid_unicode_CaseRanges), ("unicode/utf8.first", laid_unicode_utf8_first)] }
def TlsComesSaid : Prop := tlsComesRow.holds Tryd.pinned (OpenSpec.ofChange tlsComesSpec)

/-- ITS FALSE NEIGHBOUR: 'it returns false'. Refute it at one input. -/
def tlsComesWrong : ChangeSpec := { name := "tlsComes", fn := fun _ => fun
  | [d1, d2] => { results := [.lit (.bool false)], args := [d1, d2] }
  | _ => none }
def TlsComesWrongFalsely : Prop := tlsComesRow.holds Tryd.pinned (OpenSpec.ofChange tlsComesWrong)

/-- 'culvertlaw21.TlsStays': WHATEVER THE INPUT: true; the input reads as it did. -/
def tlsStaysSpec : ChangeSpec := { name := "tlsStays", fn := fun _ => fun
  | [d1, d2] => { results := [.lit (.bool true)], args := [d1, d2] }
  | _ => none }
def tlsStaysRow : OpenClaim := { program := "ythcpeceamiibaaadoor", sum := "9be5278a3447708868a75e3ebe14dd6ab0622d26afd22a218d41bdf31f6e4640", func := "culvert/culvertlaw21.TlsStays", spec := "tlsStays", inPlace := ["internal/bytealg.CountString", "internal/bytealg.IndexByteString", "internal/bytealg.IndexString", "internal/abi.NoEscape", "internal/bytealg.MakeNoZero"], unfollowed := true, recurses := true, named := ["unicode/utf8.first", "unicode/utf8.acceptRanges", "internal/bytealg.MaxLen", "unicode.CaseRanges"], apart := false, laid := [("unicode/utf8.acceptRanges", laid_unicode_utf8_acceptRanges), ("unicode.CaseRanges", laid_unicode_CaseRanges), ("unicode/utf8.first", laid_unicode_utf8_first)] }
def TlsStaysSaid : Prop := tlsStaysRow.holds Tryd.pinned (OpenSpec.ofChange tlsStaysSpec)

/-- ITS FALSE NEIGHBOUR: 'it returns false'. Refute it at one input. -/
def tlsStaysWrong : ChangeSpec := { name := "tlsStays", fn := fun _ => fun
  | [d1, d2] => { results := [.lit (.bool false)], args := [d1, d2] }
  | _ => none }
def TlsStaysWrongFalsely : Prop := tlsStaysRow.holds Tryd.pinned (OpenSpec.ofChange tlsStaysWrong)

/-- 'culvertlaw21.TlsHellos': WHATEVER THE INPUT: true; the input reads as it did. -/
def tlsHellosSpec : ChangeSpec := { name := "tlsHellos", fn := fun _ => fun
  | [d] => { results := [.lit (.bool true)], args := [d] }
  | _ => none }
def tlsHellosRow : OpenClaim := { program := "ythcpeceamiibaaadoor", sum := "9be5278a3447708868a75e3ebe14dd6ab0622d26afd22a218d41bdf31f6e4640", func := "culvert/culvertlaw21.TlsHellos", spec := "tlsHellos", inPlace := ["internal/bytealg.CountString", "internal/bytealg.IndexByteString", "internal/bytealg.IndexString", "internal/abi.NoEscape", "internal/bytealg.MakeNoZero"], unfollowed := true, recurses := true, named := ["unicode/utf8.first", "unicode/utf8.acceptRanges", "internal/bytealg.MaxLen", "unicode.CaseRanges"], apart := false, laid := [("unicode/utf8.acceptRanges", laid_unicode_utf8_acceptRanges), ("unicode.CaseRanges", laid_unicode_CaseRanges), ("unicode/utf8.first", laid_unicode_utf8_first)] }
def TlsHellosSaid : Prop := tlsHellosRow.holds Tryd.pinned (OpenSpec.ofChange tlsHellosSpec)

/-- ITS FALSE NEIGHBOUR: 'it returns false'. Refute it at one input. -/
def tlsHellosWrong : ChangeSpec := { name := "tlsHellos", fn := fun _ => fun
  | [d] => { results := [.lit (.bool false)], args := [d] }
  | _ => none }
def TlsHellosWrongFalsely : Prop := tlsHellosRow.holds Tryd.pinned (OpenSpec.ofChange tlsHellosWrong)

/-- 'culvertlaw21.TlsFolds': WHATEVER THE INPUT: true; the input reads as it did. -/
def tlsFoldsSpec : ChangeSpec := { name := "tlsFolds", fn := fun _ => fun
  | [d] => { results := [.lit (.bool true)], args := [d] }
  | _ => none }
def tlsFoldsRow : OpenClaim := { program := "ythcpeceamiibaaadoor", sum := "9be5278a3447708868a75e3ebe14dd6ab0622d26afd22a218d41bdf31f6e4640", func := "culvert/culvertlaw21.TlsFolds", spec := "tlsFolds", inPlace := ["internal/bytealg.CountString", "internal/bytealg.IndexByteString", "internal/bytealg.IndexString", "internal/abi.NoEscape", "internal/bytealg.MakeNoZero"], unfollowed := true, recurses := true, named := ["unicode/utf8.first", "unicode/utf8.acceptRanges", "internal/bytealg.MaxLen", "unicode.CaseRanges"], apart := false, laid := [("unicode/utf8.acceptRanges", laid_unicode_utf8_acceptRanges), ("unicode.CaseRanges", laid_unicode_CaseRanges), ("unicode/utf8.first", laid_unicode_utf8_first)] }
def TlsFoldsSaid : Prop := tlsFoldsRow.holds Tryd.pinned (OpenSpec.ofChange tlsFoldsSpec)

/-- ITS FALSE NEIGHBOUR: 'it returns false'. Refute it at one input. -/
def tlsFoldsWrong : ChangeSpec := { name := "tlsFolds", fn := fun _ => fun
  | [d] => { results := [.lit (.bool false)], args := [d] }
  | _ => none }
def TlsFoldsWrongFalsely : Prop := tlsFoldsRow.holds Tryd.pinned (OpenSpec.ofChange tlsFoldsWrong)

/-- 'culvertlaw21.TlsKnown': WHATEVER THE INPUT: true; the input reads as it did. -/
def tlsKnownSpec : ChangeSpec := { name := "tlsKnown", fn := fun _ => fun
  | [] => { results := [.lit (.bool true)], args := [] }
  | _ => none }
def tlsKnownRow : OpenClaim := { program := "ythcpeceamiibaaadoor", sum := "9be5278a3447708868a75e3ebe14dd6ab0622d26afd22a218d41bdf31f6e4640", func := "culvert/culvertlaw21.TlsKnown", spec := "tlsKnown", inPlace := ["internal/bytealg.CountString", "internal/bytealg.IndexByteString", "internal/bytealg.IndexString", "internal/abi.NoEscape", "internal/bytealg.MakeNoZero"], unfollowed := true, recurses := true, named := ["unicode/utf8.first", "unicode/utf8.acceptRanges", "internal/bytealg.MaxLen", "unicode.CaseRanges"], apart := false, laid := [("unicode/utf8.acceptRanges", laid_unicode_utf8_acceptRanges), ("unicode.CaseRanges", laid_unicode_CaseRanges), ("unicode/utf8.first", laid_unicode_utf8_first)] }
def TlsKnownSaid : Prop := tlsKnownRow.holds Tryd.pinned (OpenSpec.ofChange tlsKnownSpec)

/-- ITS FALSE NEIGHBOUR: 'it returns false'. Refute it at one input. -/
def tlsKnownWrong : ChangeSpec := { name := "tlsKnown", fn := fun _ => fun
  | [] => { results := [.lit (.bool false)], args := [] }
  | _ => none }
def TlsKnownWrongFalsely : Prop := tlsKnownRow.holds Tryd.pinned (OpenSpec.ofChange tlsKnownWrong)

/- THE SECOND FORM. 'bulk': how many values and letters a reading holds, each counted each time it is reached (what is shared counts as often as it is met; a slice's spare places count too). A statement '..UptoSaid' is the law's where the arguments, and the package variables that the reading takes, are together of bulk at most 1048576: NARROWER than '..Said'. Prove '..Said' where nothing that the law and all that it calls make is longer than what came in: it says more and counts as full. Else prove '..UptoSaid'. A law counts once. -/
mutual
def uptoBulk {H : Type} : DataW H → Nat
  | .lit (.string bytes) => bytes.length + 1
  | .lit _ => 1
  | .nil => 1
  | .ptr d => uptoBulk d + 1
  | .slice elems spare => uptoBulkAll elems + uptoBulkAll spare + 1
  | .agg parts => uptoBulkAll parts + 1
  | .iface _ d => uptoBulk d + 1
  | .map entries => uptoBulkEntries entries + 1
  | .held _ => 1
def uptoBulkAll {H : Type} : List (DataW H) → Nat
  | [] => 0
  | d :: r => uptoBulk d + uptoBulkAll r
def uptoBulkEntries {H : Type} : List (Lit × DataW H) → Nat
  | [] => 0
  | x :: r => uptoBulkEntry x + uptoBulkEntries r
def uptoBulkEntry {H : Type} : Lit × DataW H → Nat
  | (.string bytes, d) => bytes.length + uptoBulk d + 1
  | (_, d) => uptoBulk d + 1
 end
def uptoSmall : (H : Type) → List (DataW H) → Bool := fun _ ds => decide (uptoBulkAll ds ≤ 1048576)
def OpenSpec.upto (s : _root_.Go.ChangeSpec) : _root_.Go.OpenSpec := { _root_.Go.OpenSpec.ofChange s with cond := some uptoSmall }

/-- 'culvertlaw21.TlsComes', WHERE WHAT IT READS IS OF BULK AT MOST 1048576: true; the input reads as it did. -/
def tlsComesUptoRow : OpenClaim := { program := "ythcpeceamiibaaadoor", sum := "9be5278a3447708868a75e3ebe14dd6ab0622d26afd22a218d41bdf31f6e4640", func := "culvert/culvertlaw21.TlsComes", spec := "tlsComes", inPlace := ["internal/bytealg.CountString", "internal/bytealg.IndexByteString", "internal/bytealg.IndexString", "internal/abi.NoEscape", "internal/bytealg.MakeNoZero"], unfollowed := true, recurses := true, named := ["unicode/utf8.first", "unicode/utf8.acceptRanges", "internal/bytealg.MaxLen", "unicode.CaseRanges"], apart := false, laid := [("unicode/utf8.acceptRanges", laid_unicode_utf8_acceptRanges), ("unicode.CaseRanges", laid_unicode_CaseRanges), ("unicode/utf8.first", laid_unicode_utf8_first)], narrowed := true }
def TlsComesUptoSaid : Prop := tlsComesUptoRow.holds Tryd.pinned (OpenSpec.upto tlsComesSpec)

/-- 'culvertlaw21.TlsStays', WHERE WHAT IT READS IS OF BULK AT MOST 1048576: true; the input reads as it did. -/
def tlsStaysUptoRow : OpenClaim := { program := "ythcpeceamiibaaadoor", sum := "9be5278a3447708868a75e3ebe14dd6ab0622d26afd22a218d41bdf31f6e4640", func := "culvert/culvertlaw21.TlsStays", spec := "tlsStays", inPlace := ["internal/bytealg.CountString", "internal/bytealg.IndexByteString", "internal/bytealg.IndexString", "internal/abi.NoEscape", "internal/bytealg.MakeNoZero"], unfollowed := true, recurses := true, named := ["unicode/utf8.first", "unicode/utf8.acceptRanges", "internal/bytealg.MaxLen", "unicode.CaseRanges"], apart := false, laid := [("unicode/utf8.acceptRanges", laid_unicode_utf8_acceptRanges), ("unicode.CaseRanges", laid_unicode_CaseRanges), ("unicode/utf8.first", laid_unicode_utf8_first)], narrowed := true }
def TlsStaysUptoSaid : Prop := tlsStaysUptoRow.holds Tryd.pinned (OpenSpec.upto tlsStaysSpec)

/-- 'culvertlaw21.TlsHellos', WHERE WHAT IT READS IS OF BULK AT MOST 1048576: true; the input reads as it did. -/
def tlsHellosUptoRow : OpenClaim := { program := "ythcpeceamiibaaadoor", sum := "9be5278a3447708868a75e3ebe14dd6ab0622d26afd22a218d41bdf31f6e4640", func := "culvert/culvertlaw21.TlsHellos", spec := "tlsHellos", inPlace := ["internal/bytealg.CountString", "internal/bytealg.IndexByteString", "internal/bytealg.IndexString", "internal/abi.NoEscape", "internal/bytealg.MakeNoZero"], unfollowed := true, recurses := true, named := ["unicode/utf8.first", "unicode/utf8.acceptRanges", "internal/bytealg.MaxLen", "unicode.CaseRanges"], apart := false, laid := [("unicode/utf8.acceptRanges", laid_unicode_utf8_acceptRanges), ("unicode.CaseRanges", laid_unicode_CaseRanges), ("unicode/utf8.first", laid_unicode_utf8_first)], narrowed := true }
def TlsHellosUptoSaid : Prop := tlsHellosUptoRow.holds Tryd.pinned (OpenSpec.upto tlsHellosSpec)

/-- 'culvertlaw21.TlsFolds', WHERE WHAT IT READS IS OF BULK AT MOST 1048576: true; the input reads as it did. -/
def tlsFoldsUptoRow : OpenClaim := { program := "ythcpeceamiibaaadoor", sum := "9be5278a3447708868a75e3ebe14dd6ab0622d26afd22a218d41bdf31f6e4640", func := "culvert/culvertlaw21.TlsFolds", spec := "tlsFolds", inPlace := ["internal/bytealg.CountString", "internal/bytealg.IndexByteString", "internal/bytealg.IndexString", "internal/abi.NoEscape", "internal/bytealg.MakeNoZero"], unfollowed := true, recurses := true, named := ["unicode/utf8.first", "unicode/utf8.acceptRanges", "internal/bytealg.MaxLen", "unicode.CaseRanges"], apart := false, laid := [("unicode/utf8.acceptRanges", laid_unicode_utf8_acceptRanges), ("unicode.CaseRanges", laid_unicode_CaseRanges), ("unicode/utf8.first", laid_unicode_utf8_first)], narrowed := true }
def TlsFoldsUptoSaid : Prop := tlsFoldsUptoRow.holds Tryd.pinned (OpenSpec.upto tlsFoldsSpec)

/-- 'culvertlaw21.TlsKnown', WHERE WHAT IT READS IS OF BULK AT MOST 1048576: true; the input reads as it did. -/
def tlsKnownUptoRow : OpenClaim := { program := "ythcpeceamiibaaadoor", sum := "9be5278a3447708868a75e3ebe14dd6ab0622d26afd22a218d41bdf31f6e4640", func := "culvert/culvertlaw21.TlsKnown", spec := "tlsKnown", inPlace := ["internal/bytealg.CountString", "internal/bytealg.IndexByteString", "internal/bytealg.IndexString", "internal/abi.NoEscape", "internal/bytealg.MakeNoZero"], unfollowed := true, recurses := true, named := ["unicode/utf8.first", "unicode/utf8.acceptRanges", "internal/bytealg.MaxLen", "unicode.CaseRanges"], apart := false, laid := [("unicode/utf8.acceptRanges", laid_unicode_utf8_acceptRanges), ("unicode.CaseRanges", laid_unicode_CaseRanges), ("unicode/utf8.first", laid_unicode_utf8_first)], narrowed := true }
def TlsKnownUptoSaid : Prop := tlsKnownUptoRow.holds Tryd.pinned (OpenSpec.upto tlsKnownSpec)

end Rows
end Go.Proofs.YthcpeceamiibaaaDoor
