/-
  DERIVED. GIVEN WITH THE SEED: THE CARDS: each row of YtmhekoalhlfjoaaGreatDoorRows.lean that lists a variable, with what it lists TIED to the program's text (the seventh form; the later family's looks); each row that meets fmt, with fmt's text TOLD by the authors' own Lean function (tested against real Go, not proved from fmt's source: count such statements apart). THE CARD IS WHAT COUNTS. Prove the row's statement (the work); the ties are given (YtmhekoalhlfjoaaGreatDoorTie.lean); close each card by the builder's one call (the guide's Derived/Test/ToyasCard.lean, 'card_holds'). Laid BY PROGRAM, IN A SANDBOX (cutbox-door.mjs). By AI agents, Wed Nov 11 2026. No macro, syntax, notation, axiom, sorry.
-/
import Derived.Test.YtmhekoalhlfjoaaGreatDoorRows
import GoSem.ClaimSeven
namespace Go.Proofs.YtmhekoalhlfjoaaGreatDoor
namespace Rows

/-- THE TIED CARD OF 'moneyerlaw4.WalletTells'. -/
def walletTellsCard : Claim7 := { stood := { row := walletTellsRow, standIns := [], harness := (true, "2370daec42291b6406befa9edfca50fbeabaed25ad5f880c409a7473f29d4638"), looks := true }, kinds := [], alts := [], laidByText := true, laidKinds := [.data, .handle], laidTests := true, laidLooks := .later }
def WalletTellsCardSaid : Prop := Claim7.holds Tryz.pinned (.plain (OpenSpec.ofChange walletTellsSpec)) walletTellsCard

/-- THE SECOND FORM's CARD OF 'moneyerlaw4.WalletTells'. -/
def walletTellsUptoCard : Claim7 := { stood := { row := walletTellsUptoRow, standIns := [], harness := (true, "2370daec42291b6406befa9edfca50fbeabaed25ad5f880c409a7473f29d4638"), looks := true }, kinds := [], alts := [], laidByText := true, laidKinds := [.data, .handle], laidTests := true, laidLooks := .later }
def WalletTellsUptoCardSaid : Prop := Claim7.holds Tryz.pinned (.plain (OpenSpec.upto walletTellsSpec)) walletTellsUptoCard
end Rows
end Go.Proofs.YtmhekoalhlfjoaaGreatDoor
