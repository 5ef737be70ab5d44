/- The program's ways of telling an error's number, as the statements use them. Condition: errors.errorType reads as the program's text lays it. -/
import Derived.Test.YtgickjghfndaaaaDoorDoor
import Derived.Test.YtgickjghfndaaaaDoorMem
namespace Go.Proofs.YtgickjghfndaaaaDoor
open Go.RowKit Go.ChangeShapes Go.WideShapes Go.ChangeAt

/-- An error of the program: nil (0), or an Errno of a number that is not 0. -/
def errOf (k : Int) : Value := if k = 0 then .nilIface else .iface 24 (.int .i64 k)
theorem errOf_nil : errOf 0 = .nilIface := rfl
theorem errOf_no {k : Int} (h : k ≠ 0) : errOf k = .iface 24 (.int .i64 k) := by unfold errOf; rw [if_neg h]

def PostTold (k : Int) (w : World) (e : Ending) (w' : World) : Prop := e = .returned (.int .i64 k) ∧ Below w.heap.size w w'
theorem told_any (k : Int) (w : World) (hg : ErrVar w) : Calls Tryd.prog 18 #[errOf k] w (PostTold k w) := by
  by_cases hk : k = 0
  · subst hk
    exact (told_nil w).mono fun e w' ⟨h1, h2⟩ => ⟨h1, h2 ▸ Below.refl _ _⟩
  · rw [errOf_no hk]
    exact told_errno k w hg

def PostErr (k j : Int) (w : World) (e : Ending) (w' : World) : Prop := e = .returned (.bool (k == j)) ∧ Below w.heap.size w w'
theorem error_any (k j : Int) (w : World) (hg : ErrVar w) : Calls Tryd.prog 6 #[errOf k, .int .i64 j] w (PostErr k j w) := by
  generalize hv : errOf k = v
  have Hv := aside hv
  clear hv
  go_enter Tryd.func6, Tryd.ntmps6
  go_wp2_with fail
  refine (show Calls _ _ #[v] _ _ from Hv.out ▸ told_any k _ hg).mono ?_
  rintro e w1 ⟨rfl, hb⟩
  go_wp2
  go_ret
  exact ⟨rfl, hb⟩
theorem error_at {k j : Int} {v : Value} {w : World} (hv : errOf k = v) (hg : ErrVar w) : Calls Tryd.prog 6 #[v, .int .i64 j] w (PostErr k j w) := by
  subst hv
  exact error_any k j w hg
end Go.Proofs.YtgickjghfndaaaaDoor
