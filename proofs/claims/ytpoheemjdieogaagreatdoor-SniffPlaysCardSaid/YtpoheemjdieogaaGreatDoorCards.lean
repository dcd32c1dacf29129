/-
  DERIVED. GIVEN WITH THE SEED: THE CARDS: each row of YtpoheemjdieogaaGreatDoorRows.lean that lists a variable, with what it lists TIED to the program's text (the seventh form; the later family's looks); each row that meets fmt, with fmt's text TOLD by the authors' own Lean function (tested against real Go, not proved from fmt's source: count such statements apart). THE CARD IS WHAT COUNTS. Prove the row's statement (the work); the ties are given (YtpoheemjdieogaaGreatDoorTie.lean); close each card by the builder's one call (the guide's Derived/Test/ToyasCard.lean, 'card_holds'). Laid BY PROGRAM, IN A SANDBOX (cutbox-door.mjs). By AI agents, Wed Nov 11 2026. No macro, syntax, notation, axiom, sorry.
-/
import Derived.Test.YtpoheemjdieogaaGreatDoorRows
import GoSem.ClaimSeven
namespace Go.Proofs.YtpoheemjdieogaaGreatDoor
namespace Rows

/-- THE TIED CARD OF 'culvertlaw23.SniffLooks'. -/
def sniffLooksCard : Claim7 := { stood := { row := sniffLooksRow, standIns := [], harness := (true, "77229b923900316fe8f4a553a2aa59664cd1a86259d9d4a2ed29860ae00ab037"), looks := true }, kinds := [], alts := [], laidByText := true, laidKinds := [.data, .data, .data, .pinned, .pinned], laidTests := true, laidLooks := .later }
def SniffLooksCardSaid : Prop := Claim7.holds Tryz.pinned (.plain (OpenSpec.ofChange sniffLooksSpec)) sniffLooksCard

/-- THE TIED CARD OF 'culvertlaw23.SniffOnce'. -/
def sniffOnceCard : Claim7 := { stood := { row := sniffOnceRow, standIns := [], harness := (true, "77229b923900316fe8f4a553a2aa59664cd1a86259d9d4a2ed29860ae00ab037"), looks := true }, kinds := [], alts := [], laidByText := true, laidKinds := [.data, .data, .data, .pinned, .pinned], laidTests := true, laidLooks := .later }
def SniffOnceCardSaid : Prop := Claim7.holds Tryz.pinned (.plain (OpenSpec.ofChange sniffOnceSpec)) sniffOnceCard

/-- THE TIED CARD OF 'culvertlaw23.SniffNames'. -/
def sniffNamesCard : Claim7 := { stood := { row := sniffNamesRow, standIns := [], harness := (true, "77229b923900316fe8f4a553a2aa59664cd1a86259d9d4a2ed29860ae00ab037"), looks := true }, kinds := [], alts := [], laidByText := true, laidKinds := [.data, .data, .data, .pinned, .pinned], laidTests := true, laidLooks := .later }
def SniffNamesCardSaid : Prop := Claim7.holds Tryz.pinned (.plain (OpenSpec.ofChange sniffNamesSpec)) sniffNamesCard

/-- THE TIED CARD OF 'culvertlaw23.SniffParts'. -/
def sniffPartsCard : Claim7 := { stood := { row := sniffPartsRow, standIns := [], harness := (true, "77229b923900316fe8f4a553a2aa59664cd1a86259d9d4a2ed29860ae00ab037"), looks := true }, kinds := [], alts := [], laidByText := true, laidKinds := [.data, .data, .data, .pinned, .pinned], laidTests := true, laidLooks := .later }
def SniffPartsCardSaid : Prop := Claim7.holds Tryz.pinned (.plain (OpenSpec.ofChange sniffPartsSpec)) sniffPartsCard

/-- THE TIED CARD OF 'culvertlaw23.SniffKnown'. -/
def sniffKnownCard : Claim7 := { stood := { row := sniffKnownRow, standIns := [], harness := (true, "77229b923900316fe8f4a553a2aa59664cd1a86259d9d4a2ed29860ae00ab037"), looks := true }, kinds := [], alts := [], laidByText := true, laidKinds := [.data, .data, .data, .pinned, .pinned], laidTests := true, laidLooks := .later }
def SniffKnownCardSaid : Prop := Claim7.holds Tryz.pinned (.plain (OpenSpec.ofChange sniffKnownSpec)) sniffKnownCard

/-- THE TIED CARD OF 'culvertlaw23.SniffPlays'. -/
def sniffPlaysCard : Claim7 := { stood := { row := sniffPlaysRow, standIns := [], harness := (true, "77229b923900316fe8f4a553a2aa59664cd1a86259d9d4a2ed29860ae00ab037"), looks := true }, kinds := [], alts := [], laidByText := true, laidKinds := [.data, .data, .data, .pinned, .pinned], laidTests := true, laidLooks := .later }
def SniffPlaysCardSaid : Prop := Claim7.holds Tryz.pinned (.plain (OpenSpec.ofChange sniffPlaysSpec)) sniffPlaysCard

/-- THE SECOND FORM's CARD OF 'culvertlaw23.SniffLooks'. -/
def sniffLooksUptoCard : Claim7 := { stood := { row := sniffLooksUptoRow, standIns := [], harness := (true, "77229b923900316fe8f4a553a2aa59664cd1a86259d9d4a2ed29860ae00ab037"), looks := true }, kinds := [], alts := [], laidByText := true, laidKinds := [.data, .data, .data, .pinned, .pinned], laidTests := true, laidLooks := .later }
def SniffLooksUptoCardSaid : Prop := Claim7.holds Tryz.pinned (.plain (OpenSpec.upto sniffLooksSpec)) sniffLooksUptoCard

/-- THE SECOND FORM's CARD OF 'culvertlaw23.SniffOnce'. -/
def sniffOnceUptoCard : Claim7 := { stood := { row := sniffOnceUptoRow, standIns := [], harness := (true, "77229b923900316fe8f4a553a2aa59664cd1a86259d9d4a2ed29860ae00ab037"), looks := true }, kinds := [], alts := [], laidByText := true, laidKinds := [.data, .data, .data, .pinned, .pinned], laidTests := true, laidLooks := .later }
def SniffOnceUptoCardSaid : Prop := Claim7.holds Tryz.pinned (.plain (OpenSpec.upto sniffOnceSpec)) sniffOnceUptoCard

/-- THE SECOND FORM's CARD OF 'culvertlaw23.SniffNames'. -/
def sniffNamesUptoCard : Claim7 := { stood := { row := sniffNamesUptoRow, standIns := [], harness := (true, "77229b923900316fe8f4a553a2aa59664cd1a86259d9d4a2ed29860ae00ab037"), looks := true }, kinds := [], alts := [], laidByText := true, laidKinds := [.data, .data, .data, .pinned, .pinned], laidTests := true, laidLooks := .later }
def SniffNamesUptoCardSaid : Prop := Claim7.holds Tryz.pinned (.plain (OpenSpec.upto sniffNamesSpec)) sniffNamesUptoCard

/-- THE SECOND FORM's CARD OF 'culvertlaw23.SniffParts'. -/
def sniffPartsUptoCard : Claim7 := { stood := { row := sniffPartsUptoRow, standIns := [], harness := (true, "77229b923900316fe8f4a553a2aa59664cd1a86259d9d4a2ed29860ae00ab037"), looks := true }, kinds := [], alts := [], laidByText := true, laidKinds := [.data, .data, .data, .pinned, .pinned], laidTests := true, laidLooks := .later }
def SniffPartsUptoCardSaid : Prop := Claim7.holds Tryz.pinned (.plain (OpenSpec.upto sniffPartsSpec)) sniffPartsUptoCard

/-- THE SECOND FORM's CARD OF 'culvertlaw23.SniffKnown'. -/
def sniffKnownUptoCard : Claim7 := { stood := { row := sniffKnownUptoRow, standIns := [], harness := (true, "77229b923900316fe8f4a553a2aa59664cd1a86259d9d4a2ed29860ae00ab037"), looks := true }, kinds := [], alts := [], laidByText := true, laidKinds := [.data, .data, .data, .pinned, .pinned], laidTests := true, laidLooks := .later }
def SniffKnownUptoCardSaid : Prop := Claim7.holds Tryz.pinned (.plain (OpenSpec.upto sniffKnownSpec)) sniffKnownUptoCard

/-- THE SECOND FORM's CARD OF 'culvertlaw23.SniffPlays'. -/
def sniffPlaysUptoCard : Claim7 := { stood := { row := sniffPlaysUptoRow, standIns := [], harness := (true, "77229b923900316fe8f4a553a2aa59664cd1a86259d9d4a2ed29860ae00ab037"), looks := true }, kinds := [], alts := [], laidByText := true, laidKinds := [.data, .data, .data, .pinned, .pinned], laidTests := true, laidLooks := .later }
def SniffPlaysUptoCardSaid : Prop := Claim7.holds Tryz.pinned (.plain (OpenSpec.upto sniffPlaysSpec)) sniffPlaysUptoCard
end Rows
end Go.Proofs.YtpoheemjdieogaaGreatDoor
