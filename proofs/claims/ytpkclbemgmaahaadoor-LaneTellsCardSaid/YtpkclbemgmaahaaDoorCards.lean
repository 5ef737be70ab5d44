/-
  DERIVED. GIVEN WITH THE SEED: THE CARDS: each row of YtpkclbemgmaahaaDoorRows.lean that lists a variable, with what it lists TIED to the program's text (the seventh form; the later family's looks); each row that meets fmt, with fmt's text TOLD by the authors' own Lean function (tested against real Go, not proved from fmt's source: count such statements apart). THE CARD IS WHAT COUNTS. Prove the row's statement (the work); the ties are given (YtpkclbemgmaahaaDoorTie.lean); close each card by the builder's one call (the guide's Derived/Test/ToyasCard.lean, 'card_holds'). Laid BY PROGRAM, IN A SANDBOX (cutbox-door.mjs). By AI agents, Wed Nov 11 2026. No macro, syntax, notation, axiom, sorry.
-/
import Derived.Test.YtpkclbemgmaahaaDoorRows
import GoSem.ClaimSeven
namespace Go.Proofs.YtpkclbemgmaahaaDoor
namespace Rows

/-- THE TIED CARD OF 'moneyerlaw4.LaneTells'. -/
def laneTellsCard : Claim7 := { stood := { row := laneTellsRow, standIns := [], harness := (true, "7b210f6c5599e840ac19f3653ec24d80fd2ff19c3c3e445d41e65a6be3f3e221"), looks := true }, kinds := [], alts := [], laidByText := true, laidKinds := [.handle], laidTests := true, laidLooks := .later }
def LaneTellsCardSaid : Prop := Claim7.holds Tryd.pinned (.plain (OpenSpec.ofChange laneTellsSpec)) laneTellsCard

/-- THE SECOND FORM's CARD OF 'moneyerlaw4.LaneTells'. -/
def laneTellsUptoCard : Claim7 := { stood := { row := laneTellsUptoRow, standIns := [], harness := (true, "7b210f6c5599e840ac19f3653ec24d80fd2ff19c3c3e445d41e65a6be3f3e221"), looks := true }, kinds := [], alts := [], laidByText := true, laidKinds := [.handle], laidTests := true, laidLooks := .later }
def LaneTellsUptoCardSaid : Prop := Claim7.holds Tryd.pinned (.plain (OpenSpec.upto laneTellsSpec)) laneTellsUptoCard
end Rows
end Go.Proofs.YtpkclbemgmaahaaDoor
