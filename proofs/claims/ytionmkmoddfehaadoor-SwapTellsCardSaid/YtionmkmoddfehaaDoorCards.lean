/-
  DERIVED. GIVEN WITH THE SEED: THE CARDS: each row of YtionmkmoddfehaaDoorRows.lean that lists a variable, with what it lists TIED to the program's text (the seventh form; the later family's looks); each row that meets fmt, with fmt's text TOLD by the authors' own Lean function (tested against real Go, not proved from fmt's source: count such statements apart). THE CARD IS WHAT COUNTS. Prove the row's statement (the work); the ties are given (YtionmkmoddfehaaDoorTie.lean); close each card by the builder's one call (the guide's Derived/Test/ToyasCard.lean, 'card_holds'). Laid BY PROGRAM, IN A SANDBOX (cutbox-door.mjs). By AI agents, Wed Nov 11 2026. No macro, syntax, notation, axiom, sorry.
-/
import Derived.Test.YtionmkmoddfehaaDoorRows
import GoSem.ClaimSeven
namespace Go.Proofs.YtionmkmoddfehaaDoor
namespace Rows

/-- THE TIED CARD OF 'moneyerlaw4.SwapTells'. -/
def swapTellsCard : Claim7 := { stood := { row := swapTellsRow, standIns := [], harness := (true, "a934b811c071bc031f48625f1b6ce8a801438183781ad88c02aaa4c66f24aa86"), looks := true }, kinds := [], alts := [], laidByText := true, laidKinds := [.handle], laidTests := true, laidLooks := .later }
def SwapTellsCardSaid : Prop := Claim7.holds Tryd.pinned (.plain (OpenSpec.ofChange swapTellsSpec)) swapTellsCard

/-- THE SECOND FORM's CARD OF 'moneyerlaw4.SwapTells'. -/
def swapTellsUptoCard : Claim7 := { stood := { row := swapTellsUptoRow, standIns := [], harness := (true, "a934b811c071bc031f48625f1b6ce8a801438183781ad88c02aaa4c66f24aa86"), looks := true }, kinds := [], alts := [], laidByText := true, laidKinds := [.handle], laidTests := true, laidLooks := .later }
def SwapTellsUptoCardSaid : Prop := Claim7.holds Tryd.pinned (.plain (OpenSpec.upto swapTellsSpec)) swapTellsUptoCard
end Rows
end Go.Proofs.YtionmkmoddfehaaDoor
