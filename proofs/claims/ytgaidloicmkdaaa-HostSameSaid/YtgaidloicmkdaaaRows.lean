/-
  No cell of these rows narrows 'for every input' (looked for: loops, veiled, ifaces, maps, wideKeys, modest, calm, conditions, laid).
  DERIVED. THE GIVEN ROWS OF THIS SEAT. 4 by the template 'for every input the law returns true; each argument reads behind the call as it read before'; 0 by the template 'total and deterministic' (their statements: YtgaidloicmkdaaaTotals.lean).
  GIVEN WITH THE SEED: the statements are not yours to turn. If you find one false, say at which input.
  Laid BY PROGRAM, IN A SANDBOX (cutbox-rows.mjs): the forced cells as the released guide's own fill.sh prints them over the translation be461785b3b091fd… (all of the seat's roots in one cut). By AI agents, Wed Nov 11 2026. No macro, syntax, notation, axiom, sorry.
-/
import Derived.Test.YtgaidloicmkdaaaChecked
import GoSem.Claim
import GoSem.ClaimJoined
import GoSem.ClaimMapViews
import Derived.JoinedTies
import Derived.KernelRfl
namespace Go.Proofs.Ytgaidloicmkdaaa
/- THE CELL 'sum', in the pinned program and in every row, IS THE sha256 OF THE DUMP (.gsa) THAT YtgaidloicmkdaaaProg.lean LOADS. Nothing in Lean hashes anything: it is a label: what it is worth is what the hold of that sum in a sandbox is worth. -/
noncomputable def Try.pinned : Pinned := { name := "ytgaidloicmkdaaa", sum := "be461785b3b091fd7ba0288c68a156aea2c74c165436fc4c3c53ba0f8ec670ce", checked := Try.checked }
namespace Rows
def none {H : Type} : Left H := { results := [], args := [] }

/-- 'culvertlaw30.HostOptions': WHATEVER THE INPUT: true; the input reads as it did. -/
def hostOptionsSpec : ChangeSpec := { name := "hostOptions", fn := fun _ => fun
  | [d1, d2, d3] => { results := [.lit (.bool true)], args := [d1, d2, d3] }
  | _ => none }
def hostOptionsRow : OpenClaim := { program := "ytgaidloicmkdaaa", sum := "be461785b3b091fd7ba0288c68a156aea2c74c165436fc4c3c53ba0f8ec670ce", func := "culvert/culvertlaw30.HostOptions", spec := "hostOptions", unfollowed := true, recurses := true, apart := false }
def HostOptionsSaid : Prop := hostOptionsRow.holds Try.pinned (OpenSpec.ofChange hostOptionsSpec)

/-- ITS FALSE NEIGHBOUR: 'it returns false'. Refute it at one input. -/
def hostOptionsWrong : ChangeSpec := { name := "hostOptions", fn := fun _ => fun
  | [d1, d2, d3] => { results := [.lit (.bool false)], args := [d1, d2, d3] }
  | _ => none }
def HostOptionsWrongFalsely : Prop := hostOptionsRow.holds Try.pinned (OpenSpec.ofChange hostOptionsWrong)

/-- 'culvertlaw30.HostSame': WHATEVER THE INPUT: true; the input reads as it did. -/
def hostSameSpec : ChangeSpec := { name := "hostSame", fn := fun _ => fun
  | [d1, d2, d3, d4] => { results := [.lit (.bool true)], args := [d1, d2, d3, d4] }
  | _ => none }
def hostSameRow : OpenClaim := { program := "ytgaidloicmkdaaa", sum := "be461785b3b091fd7ba0288c68a156aea2c74c165436fc4c3c53ba0f8ec670ce", func := "culvert/culvertlaw30.HostSame", spec := "hostSame", unfollowed := true, recurses := true, apart := false }
def HostSameSaid : Prop := hostSameRow.holds Try.pinned (OpenSpec.ofChange hostSameSpec)

/-- ITS FALSE NEIGHBOUR: 'it returns false'. Refute it at one input. -/
def hostSameWrong : ChangeSpec := { name := "hostSame", fn := fun _ => fun
  | [d1, d2, d3, d4] => { results := [.lit (.bool false)], args := [d1, d2, d3, d4] }
  | _ => none }
def HostSameWrongFalsely : Prop := hostSameRow.holds Try.pinned (OpenSpec.ofChange hostSameWrong)

/-- 'culvertlaw30.HostResets': WHATEVER THE INPUT: true; the input reads as it did. -/
def hostResetsSpec : ChangeSpec := { name := "hostResets", fn := fun _ => fun
  | [d1, d2, d3] => { results := [.lit (.bool true)], args := [d1, d2, d3] }
  | _ => none }
def hostResetsRow : OpenClaim := { program := "ytgaidloicmkdaaa", sum := "be461785b3b091fd7ba0288c68a156aea2c74c165436fc4c3c53ba0f8ec670ce", func := "culvert/culvertlaw30.HostResets", spec := "hostResets", unfollowed := true, recurses := true, apart := false }
def HostResetsSaid : Prop := hostResetsRow.holds Try.pinned (OpenSpec.ofChange hostResetsSpec)

/-- ITS FALSE NEIGHBOUR: 'it returns false'. Refute it at one input. -/
def hostResetsWrong : ChangeSpec := { name := "hostResets", fn := fun _ => fun
  | [d1, d2, d3] => { results := [.lit (.bool false)], args := [d1, d2, d3] }
  | _ => none }
def HostResetsWrongFalsely : Prop := hostResetsRow.holds Try.pinned (OpenSpec.ofChange hostResetsWrong)

/-- 'culvertlaw30.HostKnown': WHATEVER THE INPUT: true; the input reads as it did. -/
def hostKnownSpec : ChangeSpec := { name := "hostKnown", fn := fun _ => fun
  | [] => { results := [.lit (.bool true)], args := [] }
  | _ => none }
def hostKnownRow : OpenClaim := { program := "ytgaidloicmkdaaa", sum := "be461785b3b091fd7ba0288c68a156aea2c74c165436fc4c3c53ba0f8ec670ce", func := "culvert/culvertlaw30.HostKnown", spec := "hostKnown", unfollowed := true, recurses := true, apart := false }
def HostKnownSaid : Prop := hostKnownRow.holds Try.pinned (OpenSpec.ofChange hostKnownSpec)

/-- ITS FALSE NEIGHBOUR: 'it returns false'. Refute it at one input. -/
def hostKnownWrong : ChangeSpec := { name := "hostKnown", fn := fun _ => fun
  | [] => { results := [.lit (.bool false)], args := [] }
  | _ => none }
def HostKnownWrongFalsely : Prop := hostKnownRow.holds Try.pinned (OpenSpec.ofChange hostKnownWrong)

/- THE SECOND FORM. 'bulk': how many values and letters a reading holds, each counted each time it is reached (what is shared counts as often as it is met; a slice's spare places count too). A statement '..UptoSaid' is the law's where the arguments, and the package variables that the reading takes, are together of bulk at most 1048576: NARROWER than '..Said'. Prove '..Said' where nothing that the law and all that it calls make is longer than what came in: it says more and counts as full. Else prove '..UptoSaid'. A law counts once. -/
mutual
def uptoBulk {H : Type} : DataW H → Nat
  | .lit (.string bytes) => bytes.length + 1
  | .lit _ => 1
  | .nil => 1
  | .ptr d => uptoBulk d + 1
  | .slice elems spare => uptoBulkAll elems + uptoBulkAll spare + 1
  | .agg parts => uptoBulkAll parts + 1
  | .iface _ d => uptoBulk d + 1
  | .map entries => uptoBulkEntries entries + 1
  | .held _ => 1
def uptoBulkAll {H : Type} : List (DataW H) → Nat
  | [] => 0
  | d :: r => uptoBulk d + uptoBulkAll r
def uptoBulkEntries {H : Type} : List (Lit × DataW H) → Nat
  | [] => 0
  | x :: r => uptoBulkEntry x + uptoBulkEntries r
def uptoBulkEntry {H : Type} : Lit × DataW H → Nat
  | (.string bytes, d) => bytes.length + uptoBulk d + 1
  | (_, d) => uptoBulk d + 1
 end
def uptoSmall : (H : Type) → List (DataW H) → Bool := fun _ ds => decide (uptoBulkAll ds ≤ 1048576)
def OpenSpec.upto (s : _root_.Go.ChangeSpec) : _root_.Go.OpenSpec := { _root_.Go.OpenSpec.ofChange s with cond := some uptoSmall }

/-- 'culvertlaw30.HostOptions', WHERE WHAT IT READS IS OF BULK AT MOST 1048576: true; the input reads as it did. -/
def hostOptionsUptoRow : OpenClaim := { program := "ytgaidloicmkdaaa", sum := "be461785b3b091fd7ba0288c68a156aea2c74c165436fc4c3c53ba0f8ec670ce", func := "culvert/culvertlaw30.HostOptions", spec := "hostOptions", unfollowed := true, recurses := true, apart := false, narrowed := true }
def HostOptionsUptoSaid : Prop := hostOptionsUptoRow.holds Try.pinned (OpenSpec.upto hostOptionsSpec)

/-- 'culvertlaw30.HostSame', WHERE WHAT IT READS IS OF BULK AT MOST 1048576: true; the input reads as it did. -/
def hostSameUptoRow : OpenClaim := { program := "ytgaidloicmkdaaa", sum := "be461785b3b091fd7ba0288c68a156aea2c74c165436fc4c3c53ba0f8ec670ce", func := "culvert/culvertlaw30.HostSame", spec := "hostSame", unfollowed := true, recurses := true, apart := false, narrowed := true }
def HostSameUptoSaid : Prop := hostSameUptoRow.holds Try.pinned (OpenSpec.upto hostSameSpec)

/-- 'culvertlaw30.HostResets', WHERE WHAT IT READS IS OF BULK AT MOST 1048576: true; the input reads as it did. -/
def hostResetsUptoRow : OpenClaim := { program := "ytgaidloicmkdaaa", sum := "be461785b3b091fd7ba0288c68a156aea2c74c165436fc4c3c53ba0f8ec670ce", func := "culvert/culvertlaw30.HostResets", spec := "hostResets", unfollowed := true, recurses := true, apart := false, narrowed := true }
def HostResetsUptoSaid : Prop := hostResetsUptoRow.holds Try.pinned (OpenSpec.upto hostResetsSpec)

/-- 'culvertlaw30.HostKnown', WHERE WHAT IT READS IS OF BULK AT MOST 1048576: true; the input reads as it did. -/
def hostKnownUptoRow : OpenClaim := { program := "ytgaidloicmkdaaa", sum := "be461785b3b091fd7ba0288c68a156aea2c74c165436fc4c3c53ba0f8ec670ce", func := "culvert/culvertlaw30.HostKnown", spec := "hostKnown", unfollowed := true, recurses := true, apart := false, narrowed := true }
def HostKnownUptoSaid : Prop := hostKnownUptoRow.holds Try.pinned (OpenSpec.upto hostKnownSpec)

end Rows
end Go.Proofs.Ytgaidloicmkdaaa
