/-
  DERIVED. GIVEN WITH THE SEED: THE CARDS: each row of YtkpbhbafapdboaaDoorRows.lean that lists a variable, with what it lists TIED to the program's text (the seventh form; the later family's looks); each row that meets fmt, with fmt's text TOLD by the authors' own Lean function (tested against real Go, not proved from fmt's source: count such statements apart). THE CARD IS WHAT COUNTS. Prove the row's statement (the work); the ties are given (YtkpbhbafapdboaaDoorTie.lean); close each card by the builder's one call (the guide's Derived/Test/ToyasCard.lean, 'card_holds'). Laid BY PROGRAM, IN A SANDBOX (cutbox-door.mjs). By AI agents, Wed Nov 11 2026. No macro, syntax, notation, axiom, sorry.
-/
import Derived.Test.YtkpbhbafapdboaaDoorRows
import GoSem.ClaimSeven
namespace Go.Proofs.YtkpbhbafapdboaaDoor
namespace Rows

/-- THE TIED CARD OF 'moneyerlaw5.AuditBounds'. -/
def auditBoundsCard : Claim7 := { stood := { row := auditBoundsRow, standIns := [], harness := (true, "ec4b0030401589c372505b2fbcdc828684b67c5fe44ac5d0ac5d3d12423e6049"), looks := true }, kinds := [], alts := [], laidByText := true, laidKinds := [.data], laidTests := true, laidLooks := .later }
def AuditBoundsCardSaid : Prop := Claim7.holds Tryd.pinned (.plain (OpenSpec.ofChange auditBoundsSpec)) auditBoundsCard

/-- THE TIED CARD OF 'moneyerlaw5.AuditTwo'. -/
def auditTwoCard : Claim7 := { stood := { row := auditTwoRow, standIns := [], harness := (true, "ec4b0030401589c372505b2fbcdc828684b67c5fe44ac5d0ac5d3d12423e6049"), looks := true }, kinds := [], alts := [], laidByText := true, laidKinds := [.data], laidTests := true, laidLooks := .later }
def AuditTwoCardSaid : Prop := Claim7.holds Tryd.pinned (.plain (OpenSpec.ofChange auditTwoSpec)) auditTwoCard

/-- THE TIED CARD OF 'moneyerlaw5.AuditProves'. -/
def auditProvesCard : Claim7 := { stood := { row := auditProvesRow, standIns := [], harness := (true, "ec4b0030401589c372505b2fbcdc828684b67c5fe44ac5d0ac5d3d12423e6049"), looks := true }, kinds := [], alts := [], laidByText := true, laidKinds := [.data], laidTests := true, laidLooks := .later }
def AuditProvesCardSaid : Prop := Claim7.holds Tryd.pinned (.plain (OpenSpec.ofChange auditProvesSpec)) auditProvesCard

/-- THE TIED CARD OF 'moneyerlaw5.AuditTells'. -/
def auditTellsCard : Claim7 := { stood := { row := auditTellsRow, standIns := [], harness := (true, "ec4b0030401589c372505b2fbcdc828684b67c5fe44ac5d0ac5d3d12423e6049"), looks := true }, kinds := [], alts := [], laidByText := true, laidKinds := [.data, .handle], laidTests := true, laidLooks := .later }
def AuditTellsCardSaid : Prop := Claim7.holds Tryd.pinned (.plain (OpenSpec.ofChange auditTellsSpec)) auditTellsCard

/-- THE SECOND FORM's CARD OF 'moneyerlaw5.AuditBounds'. -/
def auditBoundsUptoCard : Claim7 := { stood := { row := auditBoundsUptoRow, standIns := [], harness := (true, "ec4b0030401589c372505b2fbcdc828684b67c5fe44ac5d0ac5d3d12423e6049"), looks := true }, kinds := [], alts := [], laidByText := true, laidKinds := [.data], laidTests := true, laidLooks := .later }
def AuditBoundsUptoCardSaid : Prop := Claim7.holds Tryd.pinned (.plain (OpenSpec.upto auditBoundsSpec)) auditBoundsUptoCard

/-- THE SECOND FORM's CARD OF 'moneyerlaw5.AuditTwo'. -/
def auditTwoUptoCard : Claim7 := { stood := { row := auditTwoUptoRow, standIns := [], harness := (true, "ec4b0030401589c372505b2fbcdc828684b67c5fe44ac5d0ac5d3d12423e6049"), looks := true }, kinds := [], alts := [], laidByText := true, laidKinds := [.data], laidTests := true, laidLooks := .later }
def AuditTwoUptoCardSaid : Prop := Claim7.holds Tryd.pinned (.plain (OpenSpec.upto auditTwoSpec)) auditTwoUptoCard

/-- THE SECOND FORM's CARD OF 'moneyerlaw5.AuditProves'. -/
def auditProvesUptoCard : Claim7 := { stood := { row := auditProvesUptoRow, standIns := [], harness := (true, "ec4b0030401589c372505b2fbcdc828684b67c5fe44ac5d0ac5d3d12423e6049"), looks := true }, kinds := [], alts := [], laidByText := true, laidKinds := [.data], laidTests := true, laidLooks := .later }
def AuditProvesUptoCardSaid : Prop := Claim7.holds Tryd.pinned (.plain (OpenSpec.upto auditProvesSpec)) auditProvesUptoCard

/-- THE SECOND FORM's CARD OF 'moneyerlaw5.AuditTells'. -/
def auditTellsUptoCard : Claim7 := { stood := { row := auditTellsUptoRow, standIns := [], harness := (true, "ec4b0030401589c372505b2fbcdc828684b67c5fe44ac5d0ac5d3d12423e6049"), looks := true }, kinds := [], alts := [], laidByText := true, laidKinds := [.data, .handle], laidTests := true, laidLooks := .later }
def AuditTellsUptoCardSaid : Prop := Claim7.holds Tryd.pinned (.plain (OpenSpec.upto auditTellsSpec)) auditTellsUptoCard
end Rows
end Go.Proofs.YtkpbhbafapdboaaDoor
