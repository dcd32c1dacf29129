/-
  DERIVED. GIVEN WITH THE SEED: THE CARDS: each row of YtjppfdilfcokeaaDoorRows.lean that lists a variable, with what it lists TIED to the program's text (the seventh form; the later family's looks); each row that meets fmt, with fmt's text TOLD by the authors' own Lean function (tested against real Go, not proved from fmt's source: count such statements apart). THE CARD IS WHAT COUNTS. Prove the row's statement (the work); the ties are given (YtjppfdilfcokeaaDoorTie.lean); close each card by the builder's one call (the guide's Derived/Test/ToyasCard.lean, 'card_holds'). Laid BY PROGRAM, IN A SANDBOX (cutbox-door.mjs). By AI agents, Wed Nov 11 2026. No macro, syntax, notation, axiom, sorry.
-/
import Derived.Test.YtjppfdilfcokeaaDoorRows
import GoSem.ClaimSeven
namespace Go.Proofs.YtjppfdilfcokeaaDoor
namespace Rows

/-- THE TIED CARD OF 'culvertlaw22.HttpComes'. -/
def httpComesCard : Claim7 := { stood := { row := httpComesRow, standIns := [], harness := (true, "fd7066596ec959437ce1fb6efed6376c2bbd8557ebf75388dab44e18f5e99e43"), looks := true }, kinds := [], alts := [], laidByText := true, laidKinds := [.data, .data, .data, .pinned, .pinned], laidTests := true, laidLooks := .later }
def HttpComesCardSaid : Prop := Claim7.holds Tryd.pinned (.plain (OpenSpec.ofChange httpComesSpec)) httpComesCard

/-- THE TIED CARD OF 'culvertlaw22.HttpRequests'. -/
def httpRequestsCard : Claim7 := { stood := { row := httpRequestsRow, standIns := [], harness := (true, "fd7066596ec959437ce1fb6efed6376c2bbd8557ebf75388dab44e18f5e99e43"), looks := true }, kinds := [], alts := [], laidByText := true, laidKinds := [.data, .data, .data, .pinned, .pinned], laidTests := true, laidLooks := .later }
def HttpRequestsCardSaid : Prop := Claim7.holds Tryd.pinned (.plain (OpenSpec.ofChange httpRequestsSpec)) httpRequestsCard

/-- THE TIED CARD OF 'culvertlaw22.HttpMade'. -/
def httpMadeCard : Claim7 := { stood := { row := httpMadeRow, standIns := [], harness := (true, "fd7066596ec959437ce1fb6efed6376c2bbd8557ebf75388dab44e18f5e99e43"), looks := true }, kinds := [], alts := [], laidByText := true, laidKinds := [.data, .data, .data, .pinned, .pinned], laidTests := true, laidLooks := .later }
def HttpMadeCardSaid : Prop := Claim7.holds Tryd.pinned (.plain (OpenSpec.ofChange httpMadeSpec)) httpMadeCard

/-- THE TIED CARD OF 'culvertlaw22.HttpKnown'. -/
def httpKnownCard : Claim7 := { stood := { row := httpKnownRow, standIns := [], harness := (true, "fd7066596ec959437ce1fb6efed6376c2bbd8557ebf75388dab44e18f5e99e43"), looks := true }, kinds := [], alts := [], laidByText := true, laidKinds := [.data, .data, .data, .pinned, .pinned], laidTests := true, laidLooks := .later }
def HttpKnownCardSaid : Prop := Claim7.holds Tryd.pinned (.plain (OpenSpec.ofChange httpKnownSpec)) httpKnownCard

/-- THE TIED CARD OF 'culvertlaw22.HttpAuthority'. -/
def httpAuthorityCard : Claim7 := { stood := { row := httpAuthorityRow, standIns := [], harness := (true, "fd7066596ec959437ce1fb6efed6376c2bbd8557ebf75388dab44e18f5e99e43"), looks := true }, kinds := [], alts := [], laidByText := true, laidKinds := [.data, .data, .data, .pinned, .pinned], laidTests := true, laidLooks := .later }
def HttpAuthorityCardSaid : Prop := Claim7.holds Tryd.pinned (.plain (OpenSpec.ofChange httpAuthoritySpec)) httpAuthorityCard

/-- THE SECOND FORM's CARD OF 'culvertlaw22.HttpComes'. -/
def httpComesUptoCard : Claim7 := { stood := { row := httpComesUptoRow, standIns := [], harness := (true, "fd7066596ec959437ce1fb6efed6376c2bbd8557ebf75388dab44e18f5e99e43"), looks := true }, kinds := [], alts := [], laidByText := true, laidKinds := [.data, .data, .data, .pinned, .pinned], laidTests := true, laidLooks := .later }
def HttpComesUptoCardSaid : Prop := Claim7.holds Tryd.pinned (.plain (OpenSpec.upto httpComesSpec)) httpComesUptoCard

/-- THE SECOND FORM's CARD OF 'culvertlaw22.HttpRequests'. -/
def httpRequestsUptoCard : Claim7 := { stood := { row := httpRequestsUptoRow, standIns := [], harness := (true, "fd7066596ec959437ce1fb6efed6376c2bbd8557ebf75388dab44e18f5e99e43"), looks := true }, kinds := [], alts := [], laidByText := true, laidKinds := [.data, .data, .data, .pinned, .pinned], laidTests := true, laidLooks := .later }
def HttpRequestsUptoCardSaid : Prop := Claim7.holds Tryd.pinned (.plain (OpenSpec.upto httpRequestsSpec)) httpRequestsUptoCard

/-- THE SECOND FORM's CARD OF 'culvertlaw22.HttpMade'. -/
def httpMadeUptoCard : Claim7 := { stood := { row := httpMadeUptoRow, standIns := [], harness := (true, "fd7066596ec959437ce1fb6efed6376c2bbd8557ebf75388dab44e18f5e99e43"), looks := true }, kinds := [], alts := [], laidByText := true, laidKinds := [.data, .data, .data, .pinned, .pinned], laidTests := true, laidLooks := .later }
def HttpMadeUptoCardSaid : Prop := Claim7.holds Tryd.pinned (.plain (OpenSpec.upto httpMadeSpec)) httpMadeUptoCard

/-- THE SECOND FORM's CARD OF 'culvertlaw22.HttpKnown'. -/
def httpKnownUptoCard : Claim7 := { stood := { row := httpKnownUptoRow, standIns := [], harness := (true, "fd7066596ec959437ce1fb6efed6376c2bbd8557ebf75388dab44e18f5e99e43"), looks := true }, kinds := [], alts := [], laidByText := true, laidKinds := [.data, .data, .data, .pinned, .pinned], laidTests := true, laidLooks := .later }
def HttpKnownUptoCardSaid : Prop := Claim7.holds Tryd.pinned (.plain (OpenSpec.upto httpKnownSpec)) httpKnownUptoCard

/-- THE SECOND FORM's CARD OF 'culvertlaw22.HttpAuthority'. -/
def httpAuthorityUptoCard : Claim7 := { stood := { row := httpAuthorityUptoRow, standIns := [], harness := (true, "fd7066596ec959437ce1fb6efed6376c2bbd8557ebf75388dab44e18f5e99e43"), looks := true }, kinds := [], alts := [], laidByText := true, laidKinds := [.data, .data, .data, .pinned, .pinned], laidTests := true, laidLooks := .later }
def HttpAuthorityUptoCardSaid : Prop := Claim7.holds Tryd.pinned (.plain (OpenSpec.upto httpAuthoritySpec)) httpAuthorityUptoCard
end Rows
end Go.Proofs.YtjppfdilfcokeaaDoor
