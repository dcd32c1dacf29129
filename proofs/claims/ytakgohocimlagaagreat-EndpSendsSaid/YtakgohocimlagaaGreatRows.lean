/-
  No cell of these rows narrows 'for every input' (looked for: loops, veiled, ifaces, maps, wideKeys, modest, calm, conditions, laid).
  DERIVED. THE GIVEN ROWS OF THIS SEAT. 4 by the template 'for every input the law returns true; each argument reads behind the call as it read before'; 0 by the template 'total and deterministic' (their statements: YtakgohocimlagaaGreatTotals.lean).
  GIVEN WITH THE SEED: the statements are not yours to turn. If you find one false, say at which input.
  Laid BY PROGRAM, IN A SANDBOX (cutbox-rows.mjs): the forced cells as the released guide's own fill.sh prints them over the translation 77d064e231c1e698… (all of the seat's roots in one cut). By AI agents, Wed Nov 11 2026. No macro, syntax, notation, axiom, sorry.
-/
import Derived.Test.YtakgohocimlagaaGreatChecked
import GoSem.Claim
import GoSem.ClaimJoined
import GoSem.ClaimMapViews
import Derived.JoinedTies
import Derived.KernelRfl
namespace Go.Proofs.YtakgohocimlagaaGreat
/- THE CELL 'sum', in the pinned program and in every row, IS THE sha256 OF THE DUMP (.gsa) THAT YtakgohocimlagaaGreatProg.lean LOADS. Nothing in Lean hashes anything: it is a label: what it is worth is what the hold of that sum in a sandbox is worth. -/
noncomputable def Tryz.pinned : Pinned := { name := "ytakgohocimlagaagreat", sum := "77d064e231c1e698ff8118889f84dabeaf361ae3a7f93056e8277bc52fd2ba2f", checked := Tryz.checked }
namespace Rows
def none {H : Type} : Left H := { results := [], args := [] }

/-- 'culvertlaw20.EndpSame': WHATEVER THE INPUT: true; the input reads as it did. -/
def endpSameSpec : ChangeSpec := { name := "endpSame", fn := fun _ => fun
  | [d1, d2, d3] => { results := [.lit (.bool true)], args := [d1, d2, d3] }
  | _ => none }
def endpSameRow : OpenClaim := { program := "ytakgohocimlagaagreat", sum := "77d064e231c1e698ff8118889f84dabeaf361ae3a7f93056e8277bc52fd2ba2f", func := "culvert/culvertlaw20.EndpSame", spec := "endpSame", inPlace := ["maps.clone"], unfollowed := true, recurses := true, apart := false }
def EndpSameSaid : Prop := endpSameRow.holds Tryz.pinned (OpenSpec.ofChange endpSameSpec)

/-- ITS FALSE NEIGHBOUR: 'it returns false'. Refute it at one input. -/
def endpSameWrong : ChangeSpec := { name := "endpSame", fn := fun _ => fun
  | [d1, d2, d3] => { results := [.lit (.bool false)], args := [d1, d2, d3] }
  | _ => none }
def EndpSameWrongFalsely : Prop := endpSameRow.holds Tryz.pinned (OpenSpec.ofChange endpSameWrong)

/-- 'culvertlaw20.EndpEnds': WHATEVER THE INPUT: true; the input reads as it did. -/
def endpEndsSpec : ChangeSpec := { name := "endpEnds", fn := fun _ => fun
  | [d1, d2, d3, d4] => { results := [.lit (.bool true)], args := [d1, d2, d3, d4] }
  | _ => none }
def endpEndsRow : OpenClaim := { program := "ytakgohocimlagaagreat", sum := "77d064e231c1e698ff8118889f84dabeaf361ae3a7f93056e8277bc52fd2ba2f", func := "culvert/culvertlaw20.EndpEnds", spec := "endpEnds", inPlace := ["maps.clone"], unfollowed := true, recurses := true, apart := false }
def EndpEndsSaid : Prop := endpEndsRow.holds Tryz.pinned (OpenSpec.ofChange endpEndsSpec)

/-- ITS FALSE NEIGHBOUR: 'it returns false'. Refute it at one input. -/
def endpEndsWrong : ChangeSpec := { name := "endpEnds", fn := fun _ => fun
  | [d1, d2, d3, d4] => { results := [.lit (.bool false)], args := [d1, d2, d3, d4] }
  | _ => none }
def EndpEndsWrongFalsely : Prop := endpEndsRow.holds Tryz.pinned (OpenSpec.ofChange endpEndsWrong)

/-- 'culvertlaw20.EndpSends': WHATEVER THE INPUT: true; the input reads as it did. -/
def endpSendsSpec : ChangeSpec := { name := "endpSends", fn := fun _ => fun
  | [d1, d2, d3, d4, d5, d6] => { results := [.lit (.bool true)], args := [d1, d2, d3, d4, d5, d6] }
  | _ => none }
def endpSendsRow : OpenClaim := { program := "ytakgohocimlagaagreat", sum := "77d064e231c1e698ff8118889f84dabeaf361ae3a7f93056e8277bc52fd2ba2f", func := "culvert/culvertlaw20.EndpSends", spec := "endpSends", inPlace := ["maps.clone"], unfollowed := true, recurses := true, apart := false }
def EndpSendsSaid : Prop := endpSendsRow.holds Tryz.pinned (OpenSpec.ofChange endpSendsSpec)

/-- ITS FALSE NEIGHBOUR: 'it returns false'. Refute it at one input. -/
def endpSendsWrong : ChangeSpec := { name := "endpSends", fn := fun _ => fun
  | [d1, d2, d3, d4, d5, d6] => { results := [.lit (.bool false)], args := [d1, d2, d3, d4, d5, d6] }
  | _ => none }
def EndpSendsWrongFalsely : Prop := endpSendsRow.holds Tryz.pinned (OpenSpec.ofChange endpSendsWrong)

/-- 'culvertlaw20.EndpKnown': WHATEVER THE INPUT: true; the input reads as it did. -/
def endpKnownSpec : ChangeSpec := { name := "endpKnown", fn := fun _ => fun
  | [] => { results := [.lit (.bool true)], args := [] }
  | _ => none }
def endpKnownRow : OpenClaim := { program := "ytakgohocimlagaagreat", sum := "77d064e231c1e698ff8118889f84dabeaf361ae3a7f93056e8277bc52fd2ba2f", func := "culvert/culvertlaw20.EndpKnown", spec := "endpKnown", inPlace := ["maps.clone"], unfollowed := true, recurses := true, apart := false }
def EndpKnownSaid : Prop := endpKnownRow.holds Tryz.pinned (OpenSpec.ofChange endpKnownSpec)

/-- ITS FALSE NEIGHBOUR: 'it returns false'. Refute it at one input. -/
def endpKnownWrong : ChangeSpec := { name := "endpKnown", fn := fun _ => fun
  | [] => { results := [.lit (.bool false)], args := [] }
  | _ => none }
def EndpKnownWrongFalsely : Prop := endpKnownRow.holds Tryz.pinned (OpenSpec.ofChange endpKnownWrong)

/- THE SECOND FORM. 'bulk': how many values and letters a reading holds, each counted each time it is reached (what is shared counts as often as it is met; a slice's spare places count too). A statement '..UptoSaid' is the law's where the arguments, and the package variables that the reading takes, are together of bulk at most 1048576: NARROWER than '..Said'. Prove '..Said' where nothing that the law and all that it calls make is longer than what came in: it says more and counts as full. Else prove '..UptoSaid'. A law counts once. -/
mutual
def uptoBulk {H : Type} : DataW H → Nat
  | .lit (.string bytes) => bytes.length + 1
  | .lit _ => 1
  | .nil => 1
  | .ptr d => uptoBulk d + 1
  | .slice elems spare => uptoBulkAll elems + uptoBulkAll spare + 1
  | .agg parts => uptoBulkAll parts + 1
  | .iface _ d => uptoBulk d + 1
  | .map entries => uptoBulkEntries entries + 1
  | .held _ => 1
def uptoBulkAll {H : Type} : List (DataW H) → Nat
  | [] => 0
  | d :: r => uptoBulk d + uptoBulkAll r
def uptoBulkEntries {H : Type} : List (Lit × DataW H) → Nat
  | [] => 0
  | x :: r => uptoBulkEntry x + uptoBulkEntries r
def uptoBulkEntry {H : Type} : Lit × DataW H → Nat
  | (.string bytes, d) => bytes.length + uptoBulk d + 1
  | (_, d) => uptoBulk d + 1
 end
def uptoSmall : (H : Type) → List (DataW H) → Bool := fun _ ds => decide (uptoBulkAll ds ≤ 1048576)
def OpenSpec.upto (s : _root_.Go.ChangeSpec) : _root_.Go.OpenSpec := { _root_.Go.OpenSpec.ofChange s with cond := some uptoSmall }

/-- 'culvertlaw20.EndpSame', WHERE WHAT IT READS IS OF BULK AT MOST 1048576: true; the input reads as it did. -/
def endpSameUptoRow : OpenClaim := { program := "ytakgohocimlagaagreat", sum := "77d064e231c1e698ff8118889f84dabeaf361ae3a7f93056e8277bc52fd2ba2f", func := "culvert/culvertlaw20.EndpSame", spec := "endpSame", inPlace := ["maps.clone"], unfollowed := true, recurses := true, apart := false, narrowed := true }
def EndpSameUptoSaid : Prop := endpSameUptoRow.holds Tryz.pinned (OpenSpec.upto endpSameSpec)

/-- 'culvertlaw20.EndpEnds', WHERE WHAT IT READS IS OF BULK AT MOST 1048576: true; the input reads as it did. -/
def endpEndsUptoRow : OpenClaim := { program := "ytakgohocimlagaagreat", sum := "77d064e231c1e698ff8118889f84dabeaf361ae3a7f93056e8277bc52fd2ba2f", func := "culvert/culvertlaw20.EndpEnds", spec := "endpEnds", inPlace := ["maps.clone"], unfollowed := true, recurses := true, apart := false, narrowed := true }
def EndpEndsUptoSaid : Prop := endpEndsUptoRow.holds Tryz.pinned (OpenSpec.upto endpEndsSpec)

/-- 'culvertlaw20.EndpSends', WHERE WHAT IT READS IS OF BULK AT MOST 1048576: true; the input reads as it did. -/
def endpSendsUptoRow : OpenClaim := { program := "ytakgohocimlagaagreat", sum := "77d064e231c1e698ff8118889f84dabeaf361ae3a7f93056e8277bc52fd2ba2f", func := "culvert/culvertlaw20.EndpSends", spec := "endpSends", inPlace := ["maps.clone"], unfollowed := true, recurses := true, apart := false, narrowed := true }
def EndpSendsUptoSaid : Prop := endpSendsUptoRow.holds Tryz.pinned (OpenSpec.upto endpSendsSpec)

/-- 'culvertlaw20.EndpKnown', WHERE WHAT IT READS IS OF BULK AT MOST 1048576: true; the input reads as it did. -/
def endpKnownUptoRow : OpenClaim := { program := "ytakgohocimlagaagreat", sum := "77d064e231c1e698ff8118889f84dabeaf361ae3a7f93056e8277bc52fd2ba2f", func := "culvert/culvertlaw20.EndpKnown", spec := "endpKnown", inPlace := ["maps.clone"], unfollowed := true, recurses := true, apart := false, narrowed := true }
def EndpKnownUptoSaid : Prop := endpKnownUptoRow.holds Tryz.pinned (OpenSpec.upto endpKnownSpec)

end Rows
end Go.Proofs.YtakgohocimlagaaGreat
