/-
  DERIVED. GIVEN WITH THE SEED: THE CARDS: each row of YtiigggbghgfdoaaDoorRows.lean that lists a variable, with what it lists TIED to the program's text (the seventh form; the later family's looks); each row that meets fmt, with fmt's text TOLD by the authors' own Lean function (tested against real Go, not proved from fmt's source: count such statements apart). THE CARD IS WHAT COUNTS. Prove the row's statement (the work); the ties are given (YtiigggbghgfdoaaDoorTie.lean); close each card by the builder's one call (the guide's Derived/Test/ToyasCard.lean, 'card_holds'). Laid BY PROGRAM, IN A SANDBOX (cutbox-door.mjs). By AI agents, Wed Nov 11 2026. No macro, syntax, notation, axiom, sorry.
-/
import Derived.Test.YtiigggbghgfdoaaDoorRows
import GoSem.ClaimSeven
namespace Go.Proofs.YtiigggbghgfdoaaDoor
namespace Rows

/-- THE TIED CARD OF 'moneyerlaw4.WalletOwns'. -/
def walletOwnsCard : Claim7 := { stood := { row := walletOwnsRow, standIns := [], harness := (true, "10eb44ceef59079bbf406915e093e16a083379a0e45ebe024ec563b94936576c"), looks := false }, kinds := [], alts := [], laidByText := true, laidKinds := [.data], laidTests := true, laidLooks := .later }
def WalletOwnsCardSaid : Prop := Claim7.holds Tryd.pinned (.plain (OpenSpec.ofChange walletOwnsSpec)) walletOwnsCard

/-- THE TIED CARD OF 'moneyerlaw4.WalletMore'. -/
def walletMoreCard : Claim7 := { stood := { row := walletMoreRow, standIns := [], harness := (true, "10eb44ceef59079bbf406915e093e16a083379a0e45ebe024ec563b94936576c"), looks := false }, kinds := [], alts := [], laidByText := true, laidKinds := [.data], laidTests := true, laidLooks := .later }
def WalletMoreCardSaid : Prop := Claim7.holds Tryd.pinned (.plain (OpenSpec.ofChange walletMoreSpec)) walletMoreCard

/-- THE SECOND FORM's CARD OF 'moneyerlaw4.WalletOwns'. -/
def walletOwnsUptoCard : Claim7 := { stood := { row := walletOwnsUptoRow, standIns := [], harness := (true, "10eb44ceef59079bbf406915e093e16a083379a0e45ebe024ec563b94936576c"), looks := false }, kinds := [], alts := [], laidByText := true, laidKinds := [.data], laidTests := true, laidLooks := .later }
def WalletOwnsUptoCardSaid : Prop := Claim7.holds Tryd.pinned (.plain (OpenSpec.upto walletOwnsSpec)) walletOwnsUptoCard

/-- THE SECOND FORM's CARD OF 'moneyerlaw4.WalletMore'. -/
def walletMoreUptoCard : Claim7 := { stood := { row := walletMoreUptoRow, standIns := [], harness := (true, "10eb44ceef59079bbf406915e093e16a083379a0e45ebe024ec563b94936576c"), looks := false }, kinds := [], alts := [], laidByText := true, laidKinds := [.data], laidTests := true, laidLooks := .later }
def WalletMoreUptoCardSaid : Prop := Claim7.holds Tryd.pinned (.plain (OpenSpec.upto walletMoreSpec)) walletMoreUptoCard
end Rows
end Go.Proofs.YtiigggbghgfdoaaDoor
