/-
  DERIVED. GIVEN WITH THE SEED: THE CARDS: each row of YtcmlhopidohimaaDoorRows.lean that lists a variable, with what it lists TIED to the program's text (the seventh form; the later family's looks); each row that meets fmt, with fmt's text TOLD by the authors' own Lean function (tested against real Go, not proved from fmt's source: count such statements apart). THE CARD IS WHAT COUNTS. Prove the row's statement (the work); the ties are given (YtcmlhopidohimaaDoorTie.lean); close each card by the builder's one call (the guide's Derived/Test/ToyasCard.lean, 'card_holds'). Laid BY PROGRAM, IN A SANDBOX (cutbox-door.mjs). By AI agents, Wed Nov 11 2026. No macro, syntax, notation, axiom, sorry.
-/
import Derived.Test.YtcmlhopidohimaaDoorRows
import GoSem.ClaimSeven
namespace Go.Proofs.YtcmlhopidohimaaDoor
namespace Rows

/-- THE TIED CARD OF 'moneyerlaw5.PegTells'. -/
def pegTellsCard : Claim7 := { stood := { row := pegTellsRow, standIns := [], harness := (true, "8190b2d7a370180bc81e97dd688bf5ee39261b445dcc6c7058cb807d43fe2cc3"), looks := true }, kinds := [], alts := [], laidByText := true, laidKinds := [.handle], laidTests := true, laidLooks := .later }
def PegTellsCardSaid : Prop := Claim7.holds Tryd.pinned (.plain (OpenSpec.ofChange pegTellsSpec)) pegTellsCard

/-- THE SECOND FORM's CARD OF 'moneyerlaw5.PegTells'. -/
def pegTellsUptoCard : Claim7 := { stood := { row := pegTellsUptoRow, standIns := [], harness := (true, "8190b2d7a370180bc81e97dd688bf5ee39261b445dcc6c7058cb807d43fe2cc3"), looks := true }, kinds := [], alts := [], laidByText := true, laidKinds := [.handle], laidTests := true, laidLooks := .later }
def PegTellsUptoCardSaid : Prop := Claim7.holds Tryd.pinned (.plain (OpenSpec.upto pegTellsSpec)) pegTellsUptoCard
end Rows
end Go.Proofs.YtcmlhopidohimaaDoor
