/-
  DERIVED. GIVEN WITH THE SEED: THE CARDS: each row of YthcpeceamiibaaaDoorRows.lean that lists a variable, with what it lists TIED to the program's text (the seventh form; the later family's looks); each row that meets fmt, with fmt's text TOLD by the authors' own Lean function (tested against real Go, not proved from fmt's source: count such statements apart). THE CARD IS WHAT COUNTS. Prove the row's statement (the work); the ties are given (YthcpeceamiibaaaDoorTie.lean); close each card by the builder's one call (the guide's Derived/Test/ToyasCard.lean, 'card_holds'). Laid BY PROGRAM, IN A SANDBOX (cutbox-door.mjs). By AI agents, Wed Nov 11 2026. No macro, syntax, notation, axiom, sorry.
-/
import Derived.Test.YthcpeceamiibaaaDoorRows
import GoSem.ClaimSeven
namespace Go.Proofs.YthcpeceamiibaaaDoor
namespace Rows

/-- THE TIED CARD OF 'culvertlaw21.TlsComes'. -/
def tlsComesCard : Claim7 := { stood := { row := tlsComesRow, standIns := [], harness := (true, "13086de847b0a09685c7f7ae8948732f6b05b68dba0d23f24ff37fe7ff9f0f44"), looks := true }, kinds := [], alts := [], laidByText := true, laidKinds := [.data, .pinned, .pinned], laidTests := true, laidLooks := .later }
def TlsComesCardSaid : Prop := Claim7.holds Tryd.pinned (.plain (OpenSpec.ofChange tlsComesSpec)) tlsComesCard

/-- THE TIED CARD OF 'culvertlaw21.TlsStays'. -/
def tlsStaysCard : Claim7 := { stood := { row := tlsStaysRow, standIns := [], harness := (true, "13086de847b0a09685c7f7ae8948732f6b05b68dba0d23f24ff37fe7ff9f0f44"), looks := true }, kinds := [], alts := [], laidByText := true, laidKinds := [.data, .pinned, .pinned], laidTests := true, laidLooks := .later }
def TlsStaysCardSaid : Prop := Claim7.holds Tryd.pinned (.plain (OpenSpec.ofChange tlsStaysSpec)) tlsStaysCard

/-- THE TIED CARD OF 'culvertlaw21.TlsHellos'. -/
def tlsHellosCard : Claim7 := { stood := { row := tlsHellosRow, standIns := [], harness := (true, "13086de847b0a09685c7f7ae8948732f6b05b68dba0d23f24ff37fe7ff9f0f44"), looks := true }, kinds := [], alts := [], laidByText := true, laidKinds := [.data, .pinned, .pinned], laidTests := true, laidLooks := .later }
def TlsHellosCardSaid : Prop := Claim7.holds Tryd.pinned (.plain (OpenSpec.ofChange tlsHellosSpec)) tlsHellosCard

/-- THE TIED CARD OF 'culvertlaw21.TlsFolds'. -/
def tlsFoldsCard : Claim7 := { stood := { row := tlsFoldsRow, standIns := [], harness := (true, "13086de847b0a09685c7f7ae8948732f6b05b68dba0d23f24ff37fe7ff9f0f44"), looks := true }, kinds := [], alts := [], laidByText := true, laidKinds := [.data, .pinned, .pinned], laidTests := true, laidLooks := .later }
def TlsFoldsCardSaid : Prop := Claim7.holds Tryd.pinned (.plain (OpenSpec.ofChange tlsFoldsSpec)) tlsFoldsCard

/-- THE TIED CARD OF 'culvertlaw21.TlsKnown'. -/
def tlsKnownCard : Claim7 := { stood := { row := tlsKnownRow, standIns := [], harness := (true, "13086de847b0a09685c7f7ae8948732f6b05b68dba0d23f24ff37fe7ff9f0f44"), looks := true }, kinds := [], alts := [], laidByText := true, laidKinds := [.data, .pinned, .pinned], laidTests := true, laidLooks := .later }
def TlsKnownCardSaid : Prop := Claim7.holds Tryd.pinned (.plain (OpenSpec.ofChange tlsKnownSpec)) tlsKnownCard

/-- THE SECOND FORM's CARD OF 'culvertlaw21.TlsComes'. -/
def tlsComesUptoCard : Claim7 := { stood := { row := tlsComesUptoRow, standIns := [], harness := (true, "13086de847b0a09685c7f7ae8948732f6b05b68dba0d23f24ff37fe7ff9f0f44"), looks := true }, kinds := [], alts := [], laidByText := true, laidKinds := [.data, .pinned, .pinned], laidTests := true, laidLooks := .later }
def TlsComesUptoCardSaid : Prop := Claim7.holds Tryd.pinned (.plain (OpenSpec.upto tlsComesSpec)) tlsComesUptoCard

/-- THE SECOND FORM's CARD OF 'culvertlaw21.TlsStays'. -/
def tlsStaysUptoCard : Claim7 := { stood := { row := tlsStaysUptoRow, standIns := [], harness := (true, "13086de847b0a09685c7f7ae8948732f6b05b68dba0d23f24ff37fe7ff9f0f44"), looks := true }, kinds := [], alts := [], laidByText := true, laidKinds := [.data, .pinned, .pinned], laidTests := true, laidLooks := .later }
def TlsStaysUptoCardSaid : Prop := Claim7.holds Tryd.pinned (.plain (OpenSpec.upto tlsStaysSpec)) tlsStaysUptoCard

/-- THE SECOND FORM's CARD OF 'culvertlaw21.TlsHellos'. -/
def tlsHellosUptoCard : Claim7 := { stood := { row := tlsHellosUptoRow, standIns := [], harness := (true, "13086de847b0a09685c7f7ae8948732f6b05b68dba0d23f24ff37fe7ff9f0f44"), looks := true }, kinds := [], alts := [], laidByText := true, laidKinds := [.data, .pinned, .pinned], laidTests := true, laidLooks := .later }
def TlsHellosUptoCardSaid : Prop := Claim7.holds Tryd.pinned (.plain (OpenSpec.upto tlsHellosSpec)) tlsHellosUptoCard

/-- THE SECOND FORM's CARD OF 'culvertlaw21.TlsFolds'. -/
def tlsFoldsUptoCard : Claim7 := { stood := { row := tlsFoldsUptoRow, standIns := [], harness := (true, "13086de847b0a09685c7f7ae8948732f6b05b68dba0d23f24ff37fe7ff9f0f44"), looks := true }, kinds := [], alts := [], laidByText := true, laidKinds := [.data, .pinned, .pinned], laidTests := true, laidLooks := .later }
def TlsFoldsUptoCardSaid : Prop := Claim7.holds Tryd.pinned (.plain (OpenSpec.upto tlsFoldsSpec)) tlsFoldsUptoCard

/-- THE SECOND FORM's CARD OF 'culvertlaw21.TlsKnown'. -/
def tlsKnownUptoCard : Claim7 := { stood := { row := tlsKnownUptoRow, standIns := [], harness := (true, "13086de847b0a09685c7f7ae8948732f6b05b68dba0d23f24ff37fe7ff9f0f44"), looks := true }, kinds := [], alts := [], laidByText := true, laidKinds := [.data, .pinned, .pinned], laidTests := true, laidLooks := .later }
def TlsKnownUptoCardSaid : Prop := Claim7.holds Tryd.pinned (.plain (OpenSpec.upto tlsKnownSpec)) tlsKnownUptoCard
end Rows
end Go.Proofs.YthcpeceamiibaaaDoor
