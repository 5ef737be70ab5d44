/-
  No cell of these rows narrows 'for every input' (looked for: loops, veiled, ifaces, maps, wideKeys, modest, calm, conditions, laid).
  DERIVED. THE GIVEN ROWS OF THIS SEAT. 3 by the template 'for every input the law returns true; each argument reads behind the call as it read before'; 0 by the template 'total and deterministic' (their statements: YtippdfmmlhpkfaaTotals.lean).
  GIVEN WITH THE SEED: the statements are not yours to turn. If you find one false, say at which input.
  Laid BY PROGRAM, IN A SANDBOX (cutbox-rows.mjs): the forced cells as the released guide's own fill.sh prints them over the translation b5c8aef77af85c27… (all of the seat's roots in one cut). By AI agents, Wed Nov 11 2026. No macro, syntax, notation, axiom, sorry.
-/
import Derived.Test.YtippdfmmlhpkfaaChecked
import GoSem.Claim
import GoSem.ClaimJoined
import GoSem.ClaimMapViews
import Derived.JoinedTies
import Derived.KernelRfl
namespace Go.Proofs.Ytippdfmmlhpkfaa
/- THE CELL 'sum', in the pinned program and in every row, IS THE sha256 OF THE DUMP (.gsa) THAT YtippdfmmlhpkfaaProg.lean LOADS. Nothing in Lean hashes anything: it is a label: what it is worth is what the hold of that sum in a sandbox is worth. -/
noncomputable def Try.pinned : Pinned := { name := "ytippdfmmlhpkfaa", sum := "b5c8aef77af85c27918fc414454689a052a0331ee9074fe9910f2c2d1ec9a290", checked := Try.checked }
namespace Rows
def none {H : Type} : Left H := { results := [], args := [] }

/-- 'moneyerlaw5.NetZero': WHATEVER THE INPUT: true; the input reads as it did. -/
def netZeroSpec : ChangeSpec := { name := "netZero", fn := fun _ => fun
  | [d] => { results := [.lit (.bool true)], args := [d] }
  | _ => none }
def netZeroRow : OpenClaim := { program := "ytippdfmmlhpkfaa", sum := "b5c8aef77af85c27918fc414454689a052a0331ee9074fe9910f2c2d1ec9a290", func := "moneyer/moneyerlaw5.NetZero", spec := "netZero", unfollowed := true, recurses := true, apart := false }
def NetZeroSaid : Prop := netZeroRow.holds Try.pinned (OpenSpec.ofChange netZeroSpec)

/-- ITS FALSE NEIGHBOUR: 'it returns false'. Refute it at one input. -/
def netZeroWrong : ChangeSpec := { name := "netZero", fn := fun _ => fun
  | [d] => { results := [.lit (.bool false)], args := [d] }
  | _ => none }
def NetZeroWrongFalsely : Prop := netZeroRow.holds Try.pinned (OpenSpec.ofChange netZeroWrong)

/-- 'moneyerlaw5.NetAdds': WHATEVER THE INPUT: true; the input reads as it did. -/
def netAddsSpec : ChangeSpec := { name := "netAdds", fn := fun _ => fun
  | [d1, d2] => { results := [.lit (.bool true)], args := [d1, d2] }
  | _ => none }
def netAddsRow : OpenClaim := { program := "ytippdfmmlhpkfaa", sum := "b5c8aef77af85c27918fc414454689a052a0331ee9074fe9910f2c2d1ec9a290", func := "moneyer/moneyerlaw5.NetAdds", spec := "netAdds", unfollowed := true, recurses := true, apart := false }
def NetAddsSaid : Prop := netAddsRow.holds Try.pinned (OpenSpec.ofChange netAddsSpec)

/-- ITS FALSE NEIGHBOUR: 'it returns false'. Refute it at one input. -/
def netAddsWrong : ChangeSpec := { name := "netAdds", fn := fun _ => fun
  | [d1, d2] => { results := [.lit (.bool false)], args := [d1, d2] }
  | _ => none }
def NetAddsWrongFalsely : Prop := netAddsRow.holds Try.pinned (OpenSpec.ofChange netAddsWrong)

/-- 'moneyerlaw5.NetSettles': WHATEVER THE INPUT: true; the input reads as it did. -/
def netSettlesSpec : ChangeSpec := { name := "netSettles", fn := fun _ => fun
  | [d] => { results := [.lit (.bool true)], args := [d] }
  | _ => none }
def netSettlesRow : OpenClaim := { program := "ytippdfmmlhpkfaa", sum := "b5c8aef77af85c27918fc414454689a052a0331ee9074fe9910f2c2d1ec9a290", func := "moneyer/moneyerlaw5.NetSettles", spec := "netSettles", unfollowed := true, recurses := true, apart := false }
def NetSettlesSaid : Prop := netSettlesRow.holds Try.pinned (OpenSpec.ofChange netSettlesSpec)

/-- ITS FALSE NEIGHBOUR: 'it returns false'. Refute it at one input. -/
def netSettlesWrong : ChangeSpec := { name := "netSettles", fn := fun _ => fun
  | [d] => { results := [.lit (.bool false)], args := [d] }
  | _ => none }
def NetSettlesWrongFalsely : Prop := netSettlesRow.holds Try.pinned (OpenSpec.ofChange netSettlesWrong)

/- THE SECOND FORM. 'bulk': how many values and letters a reading holds, each counted each time it is reached (what is shared counts as often as it is met; a slice's spare places count too). A statement '..UptoSaid' is the law's where the arguments, and the package variables that the reading takes, are together of bulk at most 1048576: NARROWER than '..Said'. Prove '..Said' where nothing that the law and all that it calls make is longer than what came in: it says more and counts as full. Else prove '..UptoSaid'. A law counts once. -/
mutual
def uptoBulk {H : Type} : DataW H → Nat
  | .lit (.string bytes) => bytes.length + 1
  | .lit _ => 1
  | .nil => 1
  | .ptr d => uptoBulk d + 1
  | .slice elems spare => uptoBulkAll elems + uptoBulkAll spare + 1
  | .agg parts => uptoBulkAll parts + 1
  | .iface _ d => uptoBulk d + 1
  | .map entries => uptoBulkEntries entries + 1
  | .held _ => 1
def uptoBulkAll {H : Type} : List (DataW H) → Nat
  | [] => 0
  | d :: r => uptoBulk d + uptoBulkAll r
def uptoBulkEntries {H : Type} : List (Lit × DataW H) → Nat
  | [] => 0
  | x :: r => uptoBulkEntry x + uptoBulkEntries r
def uptoBulkEntry {H : Type} : Lit × DataW H → Nat
  | (.string bytes, d) => bytes.length + uptoBulk d + 1
  | (_, d) => uptoBulk d + 1
 end
def uptoSmall : (H : Type) → List (DataW H) → Bool := fun _ ds => decide (uptoBulkAll ds ≤ 1048576)
def OpenSpec.upto (s : _root_.Go.ChangeSpec) : _root_.Go.OpenSpec := { _root_.Go.OpenSpec.ofChange s with cond := some uptoSmall }

/-- 'moneyerlaw5.NetZero', WHERE WHAT IT READS IS OF BULK AT MOST 1048576: true; the input reads as it did. -/
def netZeroUptoRow : OpenClaim := { program := "ytippdfmmlhpkfaa", sum := "b5c8aef77af85c27918fc414454689a052a0331ee9074fe9910f2c2d1ec9a290", func := "moneyer/moneyerlaw5.NetZero", spec := "netZero", unfollowed := true, recurses := true, apart := false, narrowed := true }
def NetZeroUptoSaid : Prop := netZeroUptoRow.holds Try.pinned (OpenSpec.upto netZeroSpec)

/-- 'moneyerlaw5.NetAdds', WHERE WHAT IT READS IS OF BULK AT MOST 1048576: true; the input reads as it did. -/
def netAddsUptoRow : OpenClaim := { program := "ytippdfmmlhpkfaa", sum := "b5c8aef77af85c27918fc414454689a052a0331ee9074fe9910f2c2d1ec9a290", func := "moneyer/moneyerlaw5.NetAdds", spec := "netAdds", unfollowed := true, recurses := true, apart := false, narrowed := true }
def NetAddsUptoSaid : Prop := netAddsUptoRow.holds Try.pinned (OpenSpec.upto netAddsSpec)

/-- 'moneyerlaw5.NetSettles', WHERE WHAT IT READS IS OF BULK AT MOST 1048576: true; the input reads as it did. -/
def netSettlesUptoRow : OpenClaim := { program := "ytippdfmmlhpkfaa", sum := "b5c8aef77af85c27918fc414454689a052a0331ee9074fe9910f2c2d1ec9a290", func := "moneyer/moneyerlaw5.NetSettles", spec := "netSettles", unfollowed := true, recurses := true, apart := false, narrowed := true }
def NetSettlesUptoSaid : Prop := netSettlesUptoRow.holds Try.pinned (OpenSpec.upto netSettlesSpec)

end Rows
end Go.Proofs.Ytippdfmmlhpkfaa
