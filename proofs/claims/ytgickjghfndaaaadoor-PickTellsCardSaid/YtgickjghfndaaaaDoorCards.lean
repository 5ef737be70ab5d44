/-
  DERIVED. GIVEN WITH THE SEED: THE CARDS: each row of YtgickjghfndaaaaDoorRows.lean that lists a variable, with what it lists TIED to the program's text (the seventh form; the later family's looks); each row that meets fmt, with fmt's text TOLD by the authors' own Lean function (tested against real Go, not proved from fmt's source: count such statements apart). THE CARD IS WHAT COUNTS. Prove the row's statement (the work); the ties are given (YtgickjghfndaaaaDoorTie.lean); close each card by the builder's one call (the guide's Derived/Test/ToyasCard.lean, 'card_holds'). Laid BY PROGRAM, IN A SANDBOX (cutbox-door.mjs). By AI agents, Wed Nov 11 2026. No macro, syntax, notation, axiom, sorry.
-/
import Derived.Test.YtgickjghfndaaaaDoorRows
import GoSem.ClaimSeven
namespace Go.Proofs.YtgickjghfndaaaaDoor
namespace Rows

/-- THE TIED CARD OF 'moneyerlaw6.PickTells'. -/
def pickTellsCard : Claim7 := { stood := { row := pickTellsRow, standIns := [], harness := (true, "6c59f9cf258bbb8541ecd1bee23ddaf5b263b4b5401426f19be8f725b6eda432"), looks := true }, kinds := [], alts := [], laidByText := true, laidKinds := [.handle], laidTests := true, laidLooks := .later }
def PickTellsCardSaid : Prop := Claim7.holds Tryd.pinned (.plain (OpenSpec.ofChange pickTellsSpec)) pickTellsCard

/-- THE SECOND FORM's CARD OF 'moneyerlaw6.PickTells'. -/
def pickTellsUptoCard : Claim7 := { stood := { row := pickTellsUptoRow, standIns := [], harness := (true, "6c59f9cf258bbb8541ecd1bee23ddaf5b263b4b5401426f19be8f725b6eda432"), looks := true }, kinds := [], alts := [], laidByText := true, laidKinds := [.handle], laidTests := true, laidLooks := .later }
def PickTellsUptoCardSaid : Prop := Claim7.holds Tryd.pinned (.plain (OpenSpec.upto pickTellsSpec)) pickTellsUptoCard
end Rows
end Go.Proofs.YtgickjghfndaaaaDoor
