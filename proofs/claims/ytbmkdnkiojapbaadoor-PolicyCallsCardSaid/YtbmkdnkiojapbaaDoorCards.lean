/-
  DERIVED. GIVEN WITH THE SEED: THE CARDS: each row of YtbmkdnkiojapbaaDoorRows.lean that lists a variable, with what it lists TIED to the program's text (the seventh form; the later family's looks); each row that meets fmt, with fmt's text TOLD by the authors' own Lean function (tested against real Go, not proved from fmt's source: count such statements apart). THE CARD IS WHAT COUNTS. Prove the row's statement (the work); the ties are given (YtbmkdnkiojapbaaDoorTie.lean); close each card by the builder's one call (the guide's Derived/Test/ToyasCard.lean, 'card_holds'). Laid BY PROGRAM, IN A SANDBOX (cutbox-door.mjs). By AI agents, Wed Nov 11 2026. No macro, syntax, notation, axiom, sorry.
-/
import Derived.Test.YtbmkdnkiojapbaaDoorRows
import GoSem.ClaimSeven
namespace Go.Proofs.YtbmkdnkiojapbaaDoor
namespace Rows

/-- THE TIED CARD OF 'culvertlaw24.PolicySuffix'. -/
def policySuffixCard : Claim7 := { stood := { row := policySuffixRow, standIns := [], harness := (true, "a9c4f5659f3b8ff88d13cb238a2fb6d7c3c9c8c890e0e3bea875f0e4d9f0c904"), looks := false }, kinds := [], alts := [], laidByText := true, laidKinds := [.data, .pinned, .pinned], laidTests := true, laidLooks := .later }
def PolicySuffixCardSaid : Prop := Claim7.holds Tryd.pinned (.plain (OpenSpec.ofChange policySuffixSpec)) policySuffixCard

/-- THE TIED CARD OF 'culvertlaw24.PolicyWhere'. -/
def policyWhereCard : Claim7 := { stood := { row := policyWhereRow, standIns := [], harness := (true, "a9c4f5659f3b8ff88d13cb238a2fb6d7c3c9c8c890e0e3bea875f0e4d9f0c904"), looks := false }, kinds := [], alts := [], laidByText := true, laidKinds := [.data, .pinned, .pinned], laidTests := true, laidLooks := .later }
def PolicyWhereCardSaid : Prop := Claim7.holds Tryd.pinned (.plain (OpenSpec.ofChange policyWhereSpec)) policyWhereCard

/-- THE TIED CARD OF 'culvertlaw24.PolicyNames'. -/
def policyNamesCard : Claim7 := { stood := { row := policyNamesRow, standIns := [], harness := (true, "a9c4f5659f3b8ff88d13cb238a2fb6d7c3c9c8c890e0e3bea875f0e4d9f0c904"), looks := false }, kinds := [], alts := [], laidByText := true, laidKinds := [.data, .pinned, .pinned], laidTests := true, laidLooks := .later }
def PolicyNamesCardSaid : Prop := Claim7.holds Tryd.pinned (.plain (OpenSpec.ofChange policyNamesSpec)) policyNamesCard

/-- THE TIED CARD OF 'culvertlaw24.PolicyOrder'. -/
def policyOrderCard : Claim7 := { stood := { row := policyOrderRow, standIns := [], harness := (true, "a9c4f5659f3b8ff88d13cb238a2fb6d7c3c9c8c890e0e3bea875f0e4d9f0c904"), looks := false }, kinds := [], alts := [], laidByText := true, laidKinds := [.data, .pinned, .pinned], laidTests := true, laidLooks := .later }
def PolicyOrderCardSaid : Prop := Claim7.holds Tryd.pinned (.plain (OpenSpec.ofChange policyOrderSpec)) policyOrderCard

/-- THE TIED CARD OF 'culvertlaw24.PolicyCalls'. -/
def policyCallsCard : Claim7 := { stood := { row := policyCallsRow, standIns := [], harness := (true, "a9c4f5659f3b8ff88d13cb238a2fb6d7c3c9c8c890e0e3bea875f0e4d9f0c904"), looks := false }, kinds := [], alts := [], laidByText := true, laidKinds := [.data, .pinned, .pinned], laidTests := true, laidLooks := .later }
def PolicyCallsCardSaid : Prop := Claim7.holds Tryd.pinned (.plain (OpenSpec.ofChange policyCallsSpec)) policyCallsCard

/-- THE TIED CARD OF 'culvertlaw24.PolicyKnown'. -/
def policyKnownCard : Claim7 := { stood := { row := policyKnownRow, standIns := [], harness := (true, "a9c4f5659f3b8ff88d13cb238a2fb6d7c3c9c8c890e0e3bea875f0e4d9f0c904"), looks := false }, kinds := [], alts := [], laidByText := true, laidKinds := [.data, .pinned, .pinned], laidTests := true, laidLooks := .later }
def PolicyKnownCardSaid : Prop := Claim7.holds Tryd.pinned (.plain (OpenSpec.ofChange policyKnownSpec)) policyKnownCard

/-- THE SECOND FORM's CARD OF 'culvertlaw24.PolicySuffix'. -/
def policySuffixUptoCard : Claim7 := { stood := { row := policySuffixUptoRow, standIns := [], harness := (true, "a9c4f5659f3b8ff88d13cb238a2fb6d7c3c9c8c890e0e3bea875f0e4d9f0c904"), looks := false }, kinds := [], alts := [], laidByText := true, laidKinds := [.data, .pinned, .pinned], laidTests := true, laidLooks := .later }
def PolicySuffixUptoCardSaid : Prop := Claim7.holds Tryd.pinned (.plain (OpenSpec.upto policySuffixSpec)) policySuffixUptoCard

/-- THE SECOND FORM's CARD OF 'culvertlaw24.PolicyWhere'. -/
def policyWhereUptoCard : Claim7 := { stood := { row := policyWhereUptoRow, standIns := [], harness := (true, "a9c4f5659f3b8ff88d13cb238a2fb6d7c3c9c8c890e0e3bea875f0e4d9f0c904"), looks := false }, kinds := [], alts := [], laidByText := true, laidKinds := [.data, .pinned, .pinned], laidTests := true, laidLooks := .later }
def PolicyWhereUptoCardSaid : Prop := Claim7.holds Tryd.pinned (.plain (OpenSpec.upto policyWhereSpec)) policyWhereUptoCard

/-- THE SECOND FORM's CARD OF 'culvertlaw24.PolicyNames'. -/
def policyNamesUptoCard : Claim7 := { stood := { row := policyNamesUptoRow, standIns := [], harness := (true, "a9c4f5659f3b8ff88d13cb238a2fb6d7c3c9c8c890e0e3bea875f0e4d9f0c904"), looks := false }, kinds := [], alts := [], laidByText := true, laidKinds := [.data, .pinned, .pinned], laidTests := true, laidLooks := .later }
def PolicyNamesUptoCardSaid : Prop := Claim7.holds Tryd.pinned (.plain (OpenSpec.upto policyNamesSpec)) policyNamesUptoCard

/-- THE SECOND FORM's CARD OF 'culvertlaw24.PolicyOrder'. -/
def policyOrderUptoCard : Claim7 := { stood := { row := policyOrderUptoRow, standIns := [], harness := (true, "a9c4f5659f3b8ff88d13cb238a2fb6d7c3c9c8c890e0e3bea875f0e4d9f0c904"), looks := false }, kinds := [], alts := [], laidByText := true, laidKinds := [.data, .pinned, .pinned], laidTests := true, laidLooks := .later }
def PolicyOrderUptoCardSaid : Prop := Claim7.holds Tryd.pinned (.plain (OpenSpec.upto policyOrderSpec)) policyOrderUptoCard

/-- THE SECOND FORM's CARD OF 'culvertlaw24.PolicyCalls'. -/
def policyCallsUptoCard : Claim7 := { stood := { row := policyCallsUptoRow, standIns := [], harness := (true, "a9c4f5659f3b8ff88d13cb238a2fb6d7c3c9c8c890e0e3bea875f0e4d9f0c904"), looks := false }, kinds := [], alts := [], laidByText := true, laidKinds := [.data, .pinned, .pinned], laidTests := true, laidLooks := .later }
def PolicyCallsUptoCardSaid : Prop := Claim7.holds Tryd.pinned (.plain (OpenSpec.upto policyCallsSpec)) policyCallsUptoCard

/-- THE SECOND FORM's CARD OF 'culvertlaw24.PolicyKnown'. -/
def policyKnownUptoCard : Claim7 := { stood := { row := policyKnownUptoRow, standIns := [], harness := (true, "a9c4f5659f3b8ff88d13cb238a2fb6d7c3c9c8c890e0e3bea875f0e4d9f0c904"), looks := false }, kinds := [], alts := [], laidByText := true, laidKinds := [.data, .pinned, .pinned], laidTests := true, laidLooks := .later }
def PolicyKnownUptoCardSaid : Prop := Claim7.holds Tryd.pinned (.plain (OpenSpec.upto policyKnownSpec)) policyKnownUptoCard
end Rows
end Go.Proofs.YtbmkdnkiojapbaaDoor
