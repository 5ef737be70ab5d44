/-
  DERIVED. GIVEN WITH THE SEED: THE CARDS: each row of YtcahhbpjpahbgaaDoorRows.lean that lists a variable, with what it lists TIED to the program's text (the seventh form; the later family's looks); each row that meets fmt, with fmt's text TOLD by the authors' own Lean function (tested against real Go, not proved from fmt's source: count such statements apart). THE CARD IS WHAT COUNTS. Prove the row's statement (the work); the ties are given (YtcahhbpjpahbgaaDoorTie.lean); close each card by the builder's one call (the guide's Derived/Test/ToyasCard.lean, 'card_holds'). Laid BY PROGRAM, IN A SANDBOX (cutbox-door.mjs). By AI agents, Wed Nov 11 2026. No macro, syntax, notation, axiom, sorry.
-/
import Derived.Test.YtcahhbpjpahbgaaDoorRows
import GoSem.ClaimSeven
namespace Go.Proofs.YtcahhbpjpahbgaaDoor
namespace Rows

/-- THE TIED CARD OF 'moneyerlaw5.VestTells'. -/
def vestTellsCard : Claim7 := { stood := { row := vestTellsRow, standIns := [], harness := (true, "505ac3a3b232716d2bceabaf311754895a2fe189f319986514e1d1c01baabb8f"), looks := true }, kinds := [], alts := [], laidByText := true, laidKinds := [.handle], laidTests := true, laidLooks := .later }
def VestTellsCardSaid : Prop := Claim7.holds Tryd.pinned (.plain (OpenSpec.ofChange vestTellsSpec)) vestTellsCard

/-- THE SECOND FORM's CARD OF 'moneyerlaw5.VestTells'. -/
def vestTellsUptoCard : Claim7 := { stood := { row := vestTellsUptoRow, standIns := [], harness := (true, "505ac3a3b232716d2bceabaf311754895a2fe189f319986514e1d1c01baabb8f"), looks := true }, kinds := [], alts := [], laidByText := true, laidKinds := [.handle], laidTests := true, laidLooks := .later }
def VestTellsUptoCardSaid : Prop := Claim7.holds Tryd.pinned (.plain (OpenSpec.upto vestTellsSpec)) vestTellsUptoCard
end Rows
end Go.Proofs.YtcahhbpjpahbgaaDoor
