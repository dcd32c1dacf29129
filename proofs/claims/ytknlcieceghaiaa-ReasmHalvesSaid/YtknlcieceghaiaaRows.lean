/-
  No cell of these rows narrows 'for every input' (looked for: loops, veiled, ifaces, maps, wideKeys, modest, calm, conditions, laid).
  DERIVED. THE GIVEN ROWS OF THIS SEAT. 5 by the template 'for every input the law returns true; each argument reads behind the call as it read before'; 0 by the template 'total and deterministic' (their statements: YtknlcieceghaiaaTotals.lean).
  GIVEN WITH THE SEED: the statements are not yours to turn. If you find one false, say at which input.
  Laid BY PROGRAM, IN A SANDBOX (cutbox-rows.mjs): the forced cells as the released guide's own fill.sh prints them over the translation c4d4843094fa647e… (all of the seat's roots in one cut). By AI agents, Wed Nov 11 2026. No macro, syntax, notation, axiom, sorry.
-/
import Derived.Test.YtknlcieceghaiaaChecked
import GoSem.Claim
import GoSem.ClaimJoined
import GoSem.ClaimMapViews
import Derived.JoinedTies
import Derived.KernelRfl
namespace Go.Proofs.Ytknlcieceghaiaa
/- THE CELL 'sum', in the pinned program and in every row, IS THE sha256 OF THE DUMP (.gsa) THAT YtknlcieceghaiaaProg.lean LOADS. Nothing in Lean hashes anything: it is a label: what it is worth is what the hold of that sum in a sandbox is worth. -/
noncomputable def Try.pinned : Pinned := { name := "ytknlcieceghaiaa", sum := "c4d4843094fa647e06eef8a5bc383cb61df45f34b1b4fed42549def9fbe9eea4", checked := Try.checked }
namespace Rows
def none {H : Type} : Left H := { results := [], args := [] }

/-- 'culvertlaw18.ReasmStream': WHATEVER THE INPUT: true; the input reads as it did. -/
def reasmStreamSpec : ChangeSpec := { name := "reasmStream", fn := fun _ => fun
  | [d1, d2, d3, d4] => { results := [.lit (.bool true)], args := [d1, d2, d3, d4] }
  | _ => none }
def reasmStreamRow : OpenClaim := { program := "ytknlcieceghaiaa", sum := "c4d4843094fa647e06eef8a5bc383cb61df45f34b1b4fed42549def9fbe9eea4", func := "culvert/culvertlaw18.ReasmStream", spec := "reasmStream", inPlace := ["maps.clone"], unfollowed := true, recurses := true, apart := false }
def ReasmStreamSaid : Prop := reasmStreamRow.holds Try.pinned (OpenSpec.ofChange reasmStreamSpec)

/-- ITS FALSE NEIGHBOUR: 'it returns false'. Refute it at one input. -/
def reasmStreamWrong : ChangeSpec := { name := "reasmStream", fn := fun _ => fun
  | [d1, d2, d3, d4] => { results := [.lit (.bool false)], args := [d1, d2, d3, d4] }
  | _ => none }
def ReasmStreamWrongFalsely : Prop := reasmStreamRow.holds Try.pinned (OpenSpec.ofChange reasmStreamWrong)

/-- 'culvertlaw18.ReasmPlays': WHATEVER THE INPUT: true; the input reads as it did. -/
def reasmPlaysSpec : ChangeSpec := { name := "reasmPlays", fn := fun _ => fun
  | [d1, d2, d3] => { results := [.lit (.bool true)], args := [d1, d2, d3] }
  | _ => none }
def reasmPlaysRow : OpenClaim := { program := "ytknlcieceghaiaa", sum := "c4d4843094fa647e06eef8a5bc383cb61df45f34b1b4fed42549def9fbe9eea4", func := "culvert/culvertlaw18.ReasmPlays", spec := "reasmPlays", inPlace := ["maps.clone"], unfollowed := true, recurses := true, apart := false }
def ReasmPlaysSaid : Prop := reasmPlaysRow.holds Try.pinned (OpenSpec.ofChange reasmPlaysSpec)

/-- ITS FALSE NEIGHBOUR: 'it returns false'. Refute it at one input. -/
def reasmPlaysWrong : ChangeSpec := { name := "reasmPlays", fn := fun _ => fun
  | [d1, d2, d3] => { results := [.lit (.bool false)], args := [d1, d2, d3] }
  | _ => none }
def ReasmPlaysWrongFalsely : Prop := reasmPlaysRow.holds Try.pinned (OpenSpec.ofChange reasmPlaysWrong)

/-- 'culvertlaw18.ReasmStays': WHATEVER THE INPUT: true; the input reads as it did. -/
def reasmStaysSpec : ChangeSpec := { name := "reasmStays", fn := fun _ => fun
  | [d1, d2, d3, d4] => { results := [.lit (.bool true)], args := [d1, d2, d3, d4] }
  | _ => none }
def reasmStaysRow : OpenClaim := { program := "ytknlcieceghaiaa", sum := "c4d4843094fa647e06eef8a5bc383cb61df45f34b1b4fed42549def9fbe9eea4", func := "culvert/culvertlaw18.ReasmStays", spec := "reasmStays", inPlace := ["maps.clone"], unfollowed := true, recurses := true, apart := false }
def ReasmStaysSaid : Prop := reasmStaysRow.holds Try.pinned (OpenSpec.ofChange reasmStaysSpec)

/-- ITS FALSE NEIGHBOUR: 'it returns false'. Refute it at one input. -/
def reasmStaysWrong : ChangeSpec := { name := "reasmStays", fn := fun _ => fun
  | [d1, d2, d3, d4] => { results := [.lit (.bool false)], args := [d1, d2, d3, d4] }
  | _ => none }
def ReasmStaysWrongFalsely : Prop := reasmStaysRow.holds Try.pinned (OpenSpec.ofChange reasmStaysWrong)

/-- 'culvertlaw18.ReasmHalves': WHATEVER THE INPUT: true; the input reads as it did. -/
def reasmHalvesSpec : ChangeSpec := { name := "reasmHalves", fn := fun _ => fun
  | [d1, d2, d3, d4] => { results := [.lit (.bool true)], args := [d1, d2, d3, d4] }
  | _ => none }
def reasmHalvesRow : OpenClaim := { program := "ytknlcieceghaiaa", sum := "c4d4843094fa647e06eef8a5bc383cb61df45f34b1b4fed42549def9fbe9eea4", func := "culvert/culvertlaw18.ReasmHalves", spec := "reasmHalves", inPlace := ["maps.clone"], unfollowed := true, recurses := true, apart := false }
def ReasmHalvesSaid : Prop := reasmHalvesRow.holds Try.pinned (OpenSpec.ofChange reasmHalvesSpec)

/-- ITS FALSE NEIGHBOUR: 'it returns false'. Refute it at one input. -/
def reasmHalvesWrong : ChangeSpec := { name := "reasmHalves", fn := fun _ => fun
  | [d1, d2, d3, d4] => { results := [.lit (.bool false)], args := [d1, d2, d3, d4] }
  | _ => none }
def ReasmHalvesWrongFalsely : Prop := reasmHalvesRow.holds Try.pinned (OpenSpec.ofChange reasmHalvesWrong)

/-- 'culvertlaw18.ReasmKnown': WHATEVER THE INPUT: true; the input reads as it did. -/
def reasmKnownSpec : ChangeSpec := { name := "reasmKnown", fn := fun _ => fun
  | [] => { results := [.lit (.bool true)], args := [] }
  | _ => none }
def reasmKnownRow : OpenClaim := { program := "ytknlcieceghaiaa", sum := "c4d4843094fa647e06eef8a5bc383cb61df45f34b1b4fed42549def9fbe9eea4", func := "culvert/culvertlaw18.ReasmKnown", spec := "reasmKnown", inPlace := ["maps.clone"], unfollowed := true, recurses := true, apart := false }
def ReasmKnownSaid : Prop := reasmKnownRow.holds Try.pinned (OpenSpec.ofChange reasmKnownSpec)

/-- ITS FALSE NEIGHBOUR: 'it returns false'. Refute it at one input. -/
def reasmKnownWrong : ChangeSpec := { name := "reasmKnown", fn := fun _ => fun
  | [] => { results := [.lit (.bool false)], args := [] }
  | _ => none }
def ReasmKnownWrongFalsely : Prop := reasmKnownRow.holds Try.pinned (OpenSpec.ofChange reasmKnownWrong)

/- THE SECOND FORM. 'bulk': how many values and letters a reading holds, each counted each time it is reached (what is shared counts as often as it is met; a slice's spare places count too). A statement '..UptoSaid' is the law's where the arguments, and the package variables that the reading takes, are together of bulk at most 1048576: NARROWER than '..Said'. Prove '..Said' where nothing that the law and all that it calls make is longer than what came in: it says more and counts as full. Else prove '..UptoSaid'. A law counts once. -/
mutual
def uptoBulk {H : Type} : DataW H → Nat
  | .lit (.string bytes) => bytes.length + 1
  | .lit _ => 1
  | .nil => 1
  | .ptr d => uptoBulk d + 1
  | .slice elems spare => uptoBulkAll elems + uptoBulkAll spare + 1
  | .agg parts => uptoBulkAll parts + 1
  | .iface _ d => uptoBulk d + 1
  | .map entries => uptoBulkEntries entries + 1
  | .held _ => 1
def uptoBulkAll {H : Type} : List (DataW H) → Nat
  | [] => 0
  | d :: r => uptoBulk d + uptoBulkAll r
def uptoBulkEntries {H : Type} : List (Lit × DataW H) → Nat
  | [] => 0
  | x :: r => uptoBulkEntry x + uptoBulkEntries r
def uptoBulkEntry {H : Type} : Lit × DataW H → Nat
  | (.string bytes, d) => bytes.length + uptoBulk d + 1
  | (_, d) => uptoBulk d + 1
 end
def uptoSmall : (H : Type) → List (DataW H) → Bool := fun _ ds => decide (uptoBulkAll ds ≤ 1048576)
def OpenSpec.upto (s : _root_.Go.ChangeSpec) : _root_.Go.OpenSpec := { _root_.Go.OpenSpec.ofChange s with cond := some uptoSmall }

/-- 'culvertlaw18.ReasmStream', WHERE WHAT IT READS IS OF BULK AT MOST 1048576: true; the input reads as it did. -/
def reasmStreamUptoRow : OpenClaim := { program := "ytknlcieceghaiaa", sum := "c4d4843094fa647e06eef8a5bc383cb61df45f34b1b4fed42549def9fbe9eea4", func := "culvert/culvertlaw18.ReasmStream", spec := "reasmStream", inPlace := ["maps.clone"], unfollowed := true, recurses := true, apart := false, narrowed := true }
def ReasmStreamUptoSaid : Prop := reasmStreamUptoRow.holds Try.pinned (OpenSpec.upto reasmStreamSpec)

/-- 'culvertlaw18.ReasmPlays', WHERE WHAT IT READS IS OF BULK AT MOST 1048576: true; the input reads as it did. -/
def reasmPlaysUptoRow : OpenClaim := { program := "ytknlcieceghaiaa", sum := "c4d4843094fa647e06eef8a5bc383cb61df45f34b1b4fed42549def9fbe9eea4", func := "culvert/culvertlaw18.ReasmPlays", spec := "reasmPlays", inPlace := ["maps.clone"], unfollowed := true, recurses := true, apart := false, narrowed := true }
def ReasmPlaysUptoSaid : Prop := reasmPlaysUptoRow.holds Try.pinned (OpenSpec.upto reasmPlaysSpec)

/-- 'culvertlaw18.ReasmStays', WHERE WHAT IT READS IS OF BULK AT MOST 1048576: true; the input reads as it did. -/
def reasmStaysUptoRow : OpenClaim := { program := "ytknlcieceghaiaa", sum := "c4d4843094fa647e06eef8a5bc383cb61df45f34b1b4fed42549def9fbe9eea4", func := "culvert/culvertlaw18.ReasmStays", spec := "reasmStays", inPlace := ["maps.clone"], unfollowed := true, recurses := true, apart := false, narrowed := true }
def ReasmStaysUptoSaid : Prop := reasmStaysUptoRow.holds Try.pinned (OpenSpec.upto reasmStaysSpec)

/-- 'culvertlaw18.ReasmHalves', WHERE WHAT IT READS IS OF BULK AT MOST 1048576: true; the input reads as it did. -/
def reasmHalvesUptoRow : OpenClaim := { program := "ytknlcieceghaiaa", sum := "c4d4843094fa647e06eef8a5bc383cb61df45f34b1b4fed42549def9fbe9eea4", func := "culvert/culvertlaw18.ReasmHalves", spec := "reasmHalves", inPlace := ["maps.clone"], unfollowed := true, recurses := true, apart := false, narrowed := true }
def ReasmHalvesUptoSaid : Prop := reasmHalvesUptoRow.holds Try.pinned (OpenSpec.upto reasmHalvesSpec)

/-- 'culvertlaw18.ReasmKnown', WHERE WHAT IT READS IS OF BULK AT MOST 1048576: true; the input reads as it did. -/
def reasmKnownUptoRow : OpenClaim := { program := "ytknlcieceghaiaa", sum := "c4d4843094fa647e06eef8a5bc383cb61df45f34b1b4fed42549def9fbe9eea4", func := "culvert/culvertlaw18.ReasmKnown", spec := "reasmKnown", inPlace := ["maps.clone"], unfollowed := true, recurses := true, apart := false, narrowed := true }
def ReasmKnownUptoSaid : Prop := reasmKnownUptoRow.holds Try.pinned (OpenSpec.upto reasmKnownSpec)

end Rows
end Go.Proofs.Ytknlcieceghaiaa
