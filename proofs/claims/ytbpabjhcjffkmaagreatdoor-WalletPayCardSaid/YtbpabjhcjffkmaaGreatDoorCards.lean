/-
  DERIVED. GIVEN WITH THE SEED: THE CARDS: each row of YtbpabjhcjffkmaaGreatDoorRows.lean that lists a variable, with what it lists TIED to the program's text (the seventh form; the later family's looks); each row that meets fmt, with fmt's text TOLD by the authors' own Lean function (tested against real Go, not proved from fmt's source: count such statements apart). THE CARD IS WHAT COUNTS. Prove the row's statement (the work); the ties are given (YtbpabjhcjffkmaaGreatDoorTie.lean); close each card by the builder's one call (the guide's Derived/Test/ToyasCard.lean, 'card_holds'). Laid BY PROGRAM, IN A SANDBOX (cutbox-door.mjs). By AI agents, Wed Nov 11 2026. No macro, syntax, notation, axiom, sorry.
-/
import Derived.Test.YtbpabjhcjffkmaaGreatDoorRows
import GoSem.ClaimSeven
namespace Go.Proofs.YtbpabjhcjffkmaaGreatDoor
namespace Rows

/-- THE TIED CARD OF 'moneyerlaw4.WalletPay'. -/
def walletPayCard : Claim7 := { stood := { row := walletPayRow, standIns := [], harness := (true, "0876ca4d0f3b095e52c83224f4971bfaf7e186b38cf0a2bcb84bcee0ca18ad14"), looks := true }, kinds := [], alts := [], laidByText := true, laidKinds := [.data, .handle], laidTests := true, laidLooks := .later }
def WalletPayCardSaid : Prop := Claim7.holds Tryz.pinned (.plain (OpenSpec.ofChange walletPaySpec)) walletPayCard

/-- THE SECOND FORM's CARD OF 'moneyerlaw4.WalletPay'. -/
def walletPayUptoCard : Claim7 := { stood := { row := walletPayUptoRow, standIns := [], harness := (true, "0876ca4d0f3b095e52c83224f4971bfaf7e186b38cf0a2bcb84bcee0ca18ad14"), looks := true }, kinds := [], alts := [], laidByText := true, laidKinds := [.data, .handle], laidTests := true, laidLooks := .later }
def WalletPayUptoCardSaid : Prop := Claim7.holds Tryz.pinned (.plain (OpenSpec.upto walletPaySpec)) walletPayUptoCard
end Rows
end Go.Proofs.YtbpabjhcjffkmaaGreatDoor
