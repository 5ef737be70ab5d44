/-
  No cell of these rows narrows 'for every input' (looked for: loops, veiled, ifaces, maps, wideKeys, modest, calm, conditions, laid).
  DERIVED. THE GIVEN ROWS OF THIS SEAT. 4 by the template 'for every input the law returns true; each argument reads behind the call as it read before'; 0 by the template 'total and deterministic' (their statements: YtpkclbemgmaahaaTotals.lean).
  GIVEN WITH THE SEED: the statements are not yours to turn. If you find one false, say at which input.
  Laid BY PROGRAM, IN A SANDBOX (cutbox-rows.mjs): the forced cells as the released guide's own fill.sh prints them over the translation f8204f5dd04e6b81… (all of the seat's roots in one cut). By AI agents, Wed Nov 11 2026. No macro, syntax, notation, axiom, sorry.
-/
import Derived.Test.YtpkclbemgmaahaaChecked
import GoSem.Claim
import GoSem.ClaimJoined
import GoSem.ClaimMapViews
import Derived.JoinedTies
import Derived.KernelRfl
namespace Go.Proofs.Ytpkclbemgmaahaa
/- THE CELL 'sum', in the pinned program and in every row, IS THE sha256 OF THE DUMP (.gsa) THAT YtpkclbemgmaahaaProg.lean LOADS. Nothing in Lean hashes anything: it is a label: what it is worth is what the hold of that sum in a sandbox is worth. -/
noncomputable def Try.pinned : Pinned := { name := "ytpkclbemgmaahaa", sum := "f8204f5dd04e6b81b70e5a62c09f613dc3cfc488daefc24f6c071396cbc54e07", checked := Try.checked }
namespace Rows
def none {H : Type} : Left H := { results := [], args := [] }

/-- 'moneyerlaw4.LaneNets': WHATEVER THE INPUT: true; the input reads as it did. -/
def laneNetsSpec : ChangeSpec := { name := "laneNets", fn := fun _ => fun
  | [d1, d2, d3, d4] => { results := [.lit (.bool true)], args := [d1, d2, d3, d4] }
  | _ => none }
def laneNetsRow : OpenClaim := { program := "ytpkclbemgmaahaa", sum := "f8204f5dd04e6b81b70e5a62c09f613dc3cfc488daefc24f6c071396cbc54e07", func := "moneyer/moneyerlaw4.LaneNets", spec := "laneNets", apart := false }
def LaneNetsSaid : Prop := laneNetsRow.holds Try.pinned (OpenSpec.ofChange laneNetsSpec)

/-- ITS FALSE NEIGHBOUR: 'it returns false'. Refute it at one input. -/
def laneNetsWrong : ChangeSpec := { name := "laneNets", fn := fun _ => fun
  | [d1, d2, d3, d4] => { results := [.lit (.bool false)], args := [d1, d2, d3, d4] }
  | _ => none }
def LaneNetsWrongFalsely : Prop := laneNetsRow.holds Try.pinned (OpenSpec.ofChange laneNetsWrong)

/-- 'moneyerlaw4.LaneSums': WHATEVER THE INPUT: true; the input reads as it did. -/
def laneSumsSpec : ChangeSpec := { name := "laneSums", fn := fun _ => fun
  | [d1, d2, d3, d4, d5, d6, d7] => { results := [.lit (.bool true)], args := [d1, d2, d3, d4, d5, d6, d7] }
  | _ => none }
def laneSumsRow : OpenClaim := { program := "ytpkclbemgmaahaa", sum := "f8204f5dd04e6b81b70e5a62c09f613dc3cfc488daefc24f6c071396cbc54e07", func := "moneyer/moneyerlaw4.LaneSums", spec := "laneSums", apart := false }
def LaneSumsSaid : Prop := laneSumsRow.holds Try.pinned (OpenSpec.ofChange laneSumsSpec)

/-- ITS FALSE NEIGHBOUR: 'it returns false'. Refute it at one input. -/
def laneSumsWrong : ChangeSpec := { name := "laneSums", fn := fun _ => fun
  | [d1, d2, d3, d4, d5, d6, d7] => { results := [.lit (.bool false)], args := [d1, d2, d3, d4, d5, d6, d7] }
  | _ => none }
def LaneSumsWrongFalsely : Prop := laneSumsRow.holds Try.pinned (OpenSpec.ofChange laneSumsWrong)

/-- 'moneyerlaw4.LaneHonest': WHATEVER THE INPUT: true; the input reads as it did. -/
def laneHonestSpec : ChangeSpec := { name := "laneHonest", fn := fun _ => fun
  | [d1, d2, d3, d4, d5, d6, d7] => { results := [.lit (.bool true)], args := [d1, d2, d3, d4, d5, d6, d7] }
  | _ => none }
def laneHonestRow : OpenClaim := { program := "ytpkclbemgmaahaa", sum := "f8204f5dd04e6b81b70e5a62c09f613dc3cfc488daefc24f6c071396cbc54e07", func := "moneyer/moneyerlaw4.LaneHonest", spec := "laneHonest", apart := false }
def LaneHonestSaid : Prop := laneHonestRow.holds Try.pinned (OpenSpec.ofChange laneHonestSpec)

/-- ITS FALSE NEIGHBOUR: 'it returns false'. Refute it at one input. -/
def laneHonestWrong : ChangeSpec := { name := "laneHonest", fn := fun _ => fun
  | [d1, d2, d3, d4, d5, d6, d7] => { results := [.lit (.bool false)], args := [d1, d2, d3, d4, d5, d6, d7] }
  | _ => none }
def LaneHonestWrongFalsely : Prop := laneHonestRow.holds Try.pinned (OpenSpec.ofChange laneHonestWrong)

/-- 'moneyerlaw4.LaneCheat': WHATEVER THE INPUT: true; the input reads as it did. -/
def laneCheatSpec : ChangeSpec := { name := "laneCheat", fn := fun _ => fun
  | [d1, d2, d3, d4, d5, d6, d7, d8] => { results := [.lit (.bool true)], args := [d1, d2, d3, d4, d5, d6, d7, d8] }
  | _ => none }
def laneCheatRow : OpenClaim := { program := "ytpkclbemgmaahaa", sum := "f8204f5dd04e6b81b70e5a62c09f613dc3cfc488daefc24f6c071396cbc54e07", func := "moneyer/moneyerlaw4.LaneCheat", spec := "laneCheat", apart := false }
def LaneCheatSaid : Prop := laneCheatRow.holds Try.pinned (OpenSpec.ofChange laneCheatSpec)

/-- ITS FALSE NEIGHBOUR: 'it returns false'. Refute it at one input. -/
def laneCheatWrong : ChangeSpec := { name := "laneCheat", fn := fun _ => fun
  | [d1, d2, d3, d4, d5, d6, d7, d8] => { results := [.lit (.bool false)], args := [d1, d2, d3, d4, d5, d6, d7, d8] }
  | _ => none }
def LaneCheatWrongFalsely : Prop := laneCheatRow.holds Try.pinned (OpenSpec.ofChange laneCheatWrong)

/- THE SECOND FORM. 'bulk': how many values and letters a reading holds, each counted each time it is reached (what is shared counts as often as it is met; a slice's spare places count too). A statement '..UptoSaid' is the law's where the arguments, and the package variables that the reading takes, are together of bulk at most 1048576: NARROWER than '..Said'. Prove '..Said' where nothing that the law and all that it calls make is longer than what came in: it says more and counts as full. Else prove '..UptoSaid'. A law counts once. -/
mutual
def uptoBulk {H : Type} : DataW H → Nat
  | .lit (.string bytes) => bytes.length + 1
  | .lit _ => 1
  | .nil => 1
  | .ptr d => uptoBulk d + 1
  | .slice elems spare => uptoBulkAll elems + uptoBulkAll spare + 1
  | .agg parts => uptoBulkAll parts + 1
  | .iface _ d => uptoBulk d + 1
  | .map entries => uptoBulkEntries entries + 1
  | .held _ => 1
def uptoBulkAll {H : Type} : List (DataW H) → Nat
  | [] => 0
  | d :: r => uptoBulk d + uptoBulkAll r
def uptoBulkEntries {H : Type} : List (Lit × DataW H) → Nat
  | [] => 0
  | x :: r => uptoBulkEntry x + uptoBulkEntries r
def uptoBulkEntry {H : Type} : Lit × DataW H → Nat
  | (.string bytes, d) => bytes.length + uptoBulk d + 1
  | (_, d) => uptoBulk d + 1
 end
def uptoSmall : (H : Type) → List (DataW H) → Bool := fun _ ds => decide (uptoBulkAll ds ≤ 1048576)
def OpenSpec.upto (s : _root_.Go.ChangeSpec) : _root_.Go.OpenSpec := { _root_.Go.OpenSpec.ofChange s with cond := some uptoSmall }

/-- 'moneyerlaw4.LaneNets', WHERE WHAT IT READS IS OF BULK AT MOST 1048576: true; the input reads as it did. -/
def laneNetsUptoRow : OpenClaim := { program := "ytpkclbemgmaahaa", sum := "f8204f5dd04e6b81b70e5a62c09f613dc3cfc488daefc24f6c071396cbc54e07", func := "moneyer/moneyerlaw4.LaneNets", spec := "laneNets", apart := false, narrowed := true }
def LaneNetsUptoSaid : Prop := laneNetsUptoRow.holds Try.pinned (OpenSpec.upto laneNetsSpec)

/-- 'moneyerlaw4.LaneSums', WHERE WHAT IT READS IS OF BULK AT MOST 1048576: true; the input reads as it did. -/
def laneSumsUptoRow : OpenClaim := { program := "ytpkclbemgmaahaa", sum := "f8204f5dd04e6b81b70e5a62c09f613dc3cfc488daefc24f6c071396cbc54e07", func := "moneyer/moneyerlaw4.LaneSums", spec := "laneSums", apart := false, narrowed := true }
def LaneSumsUptoSaid : Prop := laneSumsUptoRow.holds Try.pinned (OpenSpec.upto laneSumsSpec)

/-- 'moneyerlaw4.LaneHonest', WHERE WHAT IT READS IS OF BULK AT MOST 1048576: true; the input reads as it did. -/
def laneHonestUptoRow : OpenClaim := { program := "ytpkclbemgmaahaa", sum := "f8204f5dd04e6b81b70e5a62c09f613dc3cfc488daefc24f6c071396cbc54e07", func := "moneyer/moneyerlaw4.LaneHonest", spec := "laneHonest", apart := false, narrowed := true }
def LaneHonestUptoSaid : Prop := laneHonestUptoRow.holds Try.pinned (OpenSpec.upto laneHonestSpec)

/-- 'moneyerlaw4.LaneCheat', WHERE WHAT IT READS IS OF BULK AT MOST 1048576: true; the input reads as it did. -/
def laneCheatUptoRow : OpenClaim := { program := "ytpkclbemgmaahaa", sum := "f8204f5dd04e6b81b70e5a62c09f613dc3cfc488daefc24f6c071396cbc54e07", func := "moneyer/moneyerlaw4.LaneCheat", spec := "laneCheat", apart := false, narrowed := true }
def LaneCheatUptoSaid : Prop := laneCheatUptoRow.holds Try.pinned (OpenSpec.upto laneCheatSpec)

end Rows
end Go.Proofs.Ytpkclbemgmaahaa
