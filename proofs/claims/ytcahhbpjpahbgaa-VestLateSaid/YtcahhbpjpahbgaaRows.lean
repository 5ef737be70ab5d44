/-
  No cell of these rows narrows 'for every input' (looked for: loops, veiled, ifaces, maps, wideKeys, modest, calm, conditions, laid).
  DERIVED. THE GIVEN ROWS OF THIS SEAT. 3 by the template 'for every input the law returns true; each argument reads behind the call as it read before'; 0 by the template 'total and deterministic' (their statements: YtcahhbpjpahbgaaTotals.lean).
  GIVEN WITH THE SEED: the statements are not yours to turn. If you find one false, say at which input.
  Laid BY PROGRAM, IN A SANDBOX (cutbox-rows.mjs): the forced cells as the released guide's own fill.sh prints them over the translation da57c286561e5735… (all of the seat's roots in one cut). By AI agents, Wed Nov 11 2026. No macro, syntax, notation, axiom, sorry.
-/
import Derived.Test.YtcahhbpjpahbgaaChecked
import GoSem.Claim
import GoSem.ClaimJoined
import GoSem.ClaimMapViews
import Derived.JoinedTies
import Derived.KernelRfl
namespace Go.Proofs.Ytcahhbpjpahbgaa
/- THE CELL 'sum', in the pinned program and in every row, IS THE sha256 OF THE DUMP (.gsa) THAT YtcahhbpjpahbgaaProg.lean LOADS. Nothing in Lean hashes anything: it is a label: what it is worth is what the hold of that sum in a sandbox is worth. -/
noncomputable def Try.pinned : Pinned := { name := "ytcahhbpjpahbgaa", sum := "da57c286561e5735812b2b2b4c2f056c3b072a653de07c0731041498873d9e4e", checked := Try.checked }
namespace Rows
def none {H : Type} : Left H := { results := [], args := [] }

/-- 'moneyerlaw5.VestSplits': WHATEVER THE INPUT: true; the input reads as it did. -/
def vestSplitsSpec : ChangeSpec := { name := "vestSplits", fn := fun _ => fun
  | [d1, d2, d3] => { results := [.lit (.bool true)], args := [d1, d2, d3] }
  | _ => none }
def vestSplitsRow : OpenClaim := { program := "ytcahhbpjpahbgaa", sum := "da57c286561e5735812b2b2b4c2f056c3b072a653de07c0731041498873d9e4e", func := "moneyer/moneyerlaw5.VestSplits", spec := "vestSplits", apart := false }
def VestSplitsSaid : Prop := vestSplitsRow.holds Try.pinned (OpenSpec.ofChange vestSplitsSpec)

/-- ITS FALSE NEIGHBOUR: 'it returns false'. Refute it at one input. -/
def vestSplitsWrong : ChangeSpec := { name := "vestSplits", fn := fun _ => fun
  | [d1, d2, d3] => { results := [.lit (.bool false)], args := [d1, d2, d3] }
  | _ => none }
def VestSplitsWrongFalsely : Prop := vestSplitsRow.holds Try.pinned (OpenSpec.ofChange vestSplitsWrong)

/-- 'moneyerlaw5.VestLate': WHATEVER THE INPUT: true; the input reads as it did. -/
def vestLateSpec : ChangeSpec := { name := "vestLate", fn := fun _ => fun
  | [d1, d2, d3] => { results := [.lit (.bool true)], args := [d1, d2, d3] }
  | _ => none }
def vestLateRow : OpenClaim := { program := "ytcahhbpjpahbgaa", sum := "da57c286561e5735812b2b2b4c2f056c3b072a653de07c0731041498873d9e4e", func := "moneyer/moneyerlaw5.VestLate", spec := "vestLate", apart := false }
def VestLateSaid : Prop := vestLateRow.holds Try.pinned (OpenSpec.ofChange vestLateSpec)

/-- ITS FALSE NEIGHBOUR: 'it returns false'. Refute it at one input. -/
def vestLateWrong : ChangeSpec := { name := "vestLate", fn := fun _ => fun
  | [d1, d2, d3] => { results := [.lit (.bool false)], args := [d1, d2, d3] }
  | _ => none }
def VestLateWrongFalsely : Prop := vestLateRow.holds Try.pinned (OpenSpec.ofChange vestLateWrong)

/-- 'moneyerlaw5.VestRises': WHATEVER THE INPUT: true; the input reads as it did. -/
def vestRisesSpec : ChangeSpec := { name := "vestRises", fn := fun _ => fun
  | [d1, d2, d3, d4] => { results := [.lit (.bool true)], args := [d1, d2, d3, d4] }
  | _ => none }
def vestRisesRow : OpenClaim := { program := "ytcahhbpjpahbgaa", sum := "da57c286561e5735812b2b2b4c2f056c3b072a653de07c0731041498873d9e4e", func := "moneyer/moneyerlaw5.VestRises", spec := "vestRises", apart := false }
def VestRisesSaid : Prop := vestRisesRow.holds Try.pinned (OpenSpec.ofChange vestRisesSpec)

/-- ITS FALSE NEIGHBOUR: 'it returns false'. Refute it at one input. -/
def vestRisesWrong : ChangeSpec := { name := "vestRises", fn := fun _ => fun
  | [d1, d2, d3, d4] => { results := [.lit (.bool false)], args := [d1, d2, d3, d4] }
  | _ => none }
def VestRisesWrongFalsely : Prop := vestRisesRow.holds Try.pinned (OpenSpec.ofChange vestRisesWrong)

/- THE SECOND FORM. 'bulk': how many values and letters a reading holds, each counted each time it is reached (what is shared counts as often as it is met; a slice's spare places count too). A statement '..UptoSaid' is the law's where the arguments, and the package variables that the reading takes, are together of bulk at most 1048576: NARROWER than '..Said'. Prove '..Said' where nothing that the law and all that it calls make is longer than what came in: it says more and counts as full. Else prove '..UptoSaid'. A law counts once. -/
mutual
def uptoBulk {H : Type} : DataW H → Nat
  | .lit (.string bytes) => bytes.length + 1
  | .lit _ => 1
  | .nil => 1
  | .ptr d => uptoBulk d + 1
  | .slice elems spare => uptoBulkAll elems + uptoBulkAll spare + 1
  | .agg parts => uptoBulkAll parts + 1
  | .iface _ d => uptoBulk d + 1
  | .map entries => uptoBulkEntries entries + 1
  | .held _ => 1
def uptoBulkAll {H : Type} : List (DataW H) → Nat
  | [] => 0
  | d :: r => uptoBulk d + uptoBulkAll r
def uptoBulkEntries {H : Type} : List (Lit × DataW H) → Nat
  | [] => 0
  | x :: r => uptoBulkEntry x + uptoBulkEntries r
def uptoBulkEntry {H : Type} : Lit × DataW H → Nat
  | (.string bytes, d) => bytes.length + uptoBulk d + 1
  | (_, d) => uptoBulk d + 1
 end
def uptoSmall : (H : Type) → List (DataW H) → Bool := fun _ ds => decide (uptoBulkAll ds ≤ 1048576)
def OpenSpec.upto (s : _root_.Go.ChangeSpec) : _root_.Go.OpenSpec := { _root_.Go.OpenSpec.ofChange s with cond := some uptoSmall }

/-- 'moneyerlaw5.VestSplits', WHERE WHAT IT READS IS OF BULK AT MOST 1048576: true; the input reads as it did. -/
def vestSplitsUptoRow : OpenClaim := { program := "ytcahhbpjpahbgaa", sum := "da57c286561e5735812b2b2b4c2f056c3b072a653de07c0731041498873d9e4e", func := "moneyer/moneyerlaw5.VestSplits", spec := "vestSplits", apart := false, narrowed := true }
def VestSplitsUptoSaid : Prop := vestSplitsUptoRow.holds Try.pinned (OpenSpec.upto vestSplitsSpec)

/-- 'moneyerlaw5.VestLate', WHERE WHAT IT READS IS OF BULK AT MOST 1048576: true; the input reads as it did. -/
def vestLateUptoRow : OpenClaim := { program := "ytcahhbpjpahbgaa", sum := "da57c286561e5735812b2b2b4c2f056c3b072a653de07c0731041498873d9e4e", func := "moneyer/moneyerlaw5.VestLate", spec := "vestLate", apart := false, narrowed := true }
def VestLateUptoSaid : Prop := vestLateUptoRow.holds Try.pinned (OpenSpec.upto vestLateSpec)

/-- 'moneyerlaw5.VestRises', WHERE WHAT IT READS IS OF BULK AT MOST 1048576: true; the input reads as it did. -/
def vestRisesUptoRow : OpenClaim := { program := "ytcahhbpjpahbgaa", sum := "da57c286561e5735812b2b2b4c2f056c3b072a653de07c0731041498873d9e4e", func := "moneyer/moneyerlaw5.VestRises", spec := "vestRises", apart := false, narrowed := true }
def VestRisesUptoSaid : Prop := vestRisesUptoRow.holds Try.pinned (OpenSpec.upto vestRisesSpec)

end Rows
end Go.Proofs.Ytcahhbpjpahbgaa
