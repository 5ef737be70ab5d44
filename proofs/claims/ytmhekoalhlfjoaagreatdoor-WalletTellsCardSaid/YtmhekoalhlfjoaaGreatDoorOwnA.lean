/- The out of a coin. Conditions: named in each theorem. -/
import Derived.Test.YtmhekoalhlfjoaaGreatDoorCoinA
import Derived.Test.YtmhekoalhlfjoaaGreatDoorWalH
namespace Go.Proofs.YtmhekoalhlfjoaaGreatDoor
open Go.RowKit Go.ChangeShapes Go.WideShapes Go.ChangeAt

theorem encC_out (r : RCoin) {j : Nat} {v : Value} (h : [Value.int .i64 r.amt, .slice r.lA r.ln r.lc][j]? = some v) : (encC r)[33 + j]? = some v := by
  have hj := (List.getElem?_eq_some_iff.1 h).1
  simp only [List.length_cons, List.length_nil] at hj
  have e := encC_at r (j + 1)
  rw [show 32 + (j + 1) = 33 + j by omega] at e
  rw [e]
  match j, hj with
  | 0, _ => exact h
  | 1, _ => exact h
theorem range_out {w : World} {b o : Nat} {r : RCoin} (h : w.rangeAt b o (encC r)) : w.rangeAt b (o + 33) [.int .i64 r.amt, .slice r.lA r.ln r.lc] := fun j v hj => by
  have := h (33 + j) v (encC_out r hj)
  rw [← this, Nat.add_assoc]
end Go.Proofs.YtmhekoalhlfjoaaGreatDoor
