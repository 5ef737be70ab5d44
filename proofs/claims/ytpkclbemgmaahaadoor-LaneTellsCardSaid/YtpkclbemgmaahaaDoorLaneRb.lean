/- moneyerref1.Total of two; moneyerref3's words. No condition. -/
import Derived.Test.YtpkclbemgmaahaaDoorLaneRa
import Derived.Test.YtpkclbemgmaahaaDoorLaneQ
namespace Go.Proofs.YtpkclbemgmaahaaDoor
open Go.RowKit Go.ChangeShapes Go.WideShapes Go.ChangeAt

/-- A channel where nothing is wrong, else the empty one. -/
def outV (q : Int) (A : Option Addr) (n c : Nat) (cl tu wh : Int) (ch : Bool) : Value := if q = 0 then chV A n c cl tu wh ch else chV none 0 0 0 0 0 false
theorem outV_ok {A : Option Addr} {n c : Nat} {cl tu wh : Int} {ch : Bool} : outV 0 A n c cl tu wh ch = chV A n c cl tu wh ch := if_pos rfl
theorem outV_bad {q : Int} {A : Option Addr} {n c : Nat} {cl tu wh : Int} {ch : Bool} (h : q ≠ 0) : outV q A n c cl tu wh ch = chV none 0 0 0 0 0 false := if_neg h
def outE (q : Int) (p : Int × Int) : Value := if q = 0 then .agg #[.int .i64 p.1, .int .i64 p.2] else .agg #[.int .i64 0, .int .i64 0]
theorem outE_ok {p : Int × Int} : outE 0 p = .agg #[.int .i64 p.1, .int .i64 p.2] := if_pos rfl
theorem outE_bad {q : Int} {p : Int × Int} (h : q ≠ 0) : outE q p = .agg #[.int .i64 0, .int .i64 0] := if_neg h
theorem errR {w w1 : World} {a1 a2 a3 a4 a5 : Value} (hB : Below w.heap.size w w1) : Below w.heap.size w (((((w1.setCell ⟨w.heap.size + 1, 0, none⟩ a1).setCell ⟨w.heap.size + 1, 1, none⟩ a2).setCell ⟨w.heap.size + 1, 2, none⟩ a3).setCell ⟨w.heap.size + 1, 3, none⟩ a4).setCell ⟨w.heap.size + 1, 4, none⟩ a5) :=
  set5_below (Nat.le_succ _) hB

def PostTotal (a b : Int) (w : World) (e : Ending) (w' : World) : Prop := (∃ r, e = .returned (.tuple #[.int .i64 r, .int .i64 (addQ a b)])) ∧ Below w.heap.size w w'
set_option maxHeartbeats 4000000 in
set_option maxRecDepth 100000 in
theorem total_two (a b : Int) (g c : Nat) (w : World) (c0 : w.cell? ⟨g, 0, none⟩ = some (.int .i64 a)) (c1 : w.cell? ⟨g, 1, none⟩ = some (.int .i64 b)) :
    Calls Tryd.prog 5 #[.slice (some ⟨g, 0, none⟩) 2 c] w (PostTotal a b w) := by
  by_cases m0 : MoneyIn a
  · by_cases m1 : MoneyIn b
    · have HM0 := aside m0
      have HM1 := aside m1
      obtain ⟨ma, mb⟩ := m0
      obtain ⟨mc, md⟩ := m1
      have ws0 : wrap64 (0 + a) = a := by unfold wrap64; omega
      have ws1 : wrap64 (a + b) = a + b := by unfold wrap64; omega
      by_cases m2 : 1125899906842624 < a + b
      · have HE : Hid (addQ a b = 4) := aside (by unfold addQ; rw [if_pos HM0.out, if_pos HM1.out, if_pos m2])
        go_enter Tryd.func5, Tryd.ntmps5
        go_wp2_with fail
        refine wp_loop_rounds 3 ?_; rw [rounds_succ]; go_wp2_with (first | (go_at_call_of 19 (Value.int IntKind.i64 a); refine (money_ok a HM0.out _).mono ?_; rintro e w' ⟨rfl, rfl⟩) | (go_at_call_of 19 (Value.int IntKind.i64 b); refine (money_ok b HM1.out _).mono ?_; rintro e w' ⟨rfl, rfl⟩) | fail)
        rw [rounds_succ]; go_wp2_with (first | (go_at_call_of 19 (Value.int IntKind.i64 a); refine (money_ok a HM0.out _).mono ?_; rintro e w' ⟨rfl, rfl⟩) | (go_at_call_of 19 (Value.int IntKind.i64 b); refine (money_ok b HM1.out _).mono ?_; rintro e w' ⟨rfl, rfl⟩) | fail)
        refine bodyPost_ret (v := .tuple #[.int .i64 0, .int .i64 4]) (by simp only [results, Tryd.results5]; go_simp) rfl ?_
        exact ⟨⟨_, by rw [HE.out]⟩, Below.refl _ _⟩
      · have HE : Hid (addQ a b = 0) := aside (by unfold addQ; rw [if_pos HM0.out, if_pos HM1.out, if_neg m2])
        have m2' : a + b ≤ 1125899906842624 := by omega
        clear m2
        go_enter Tryd.func5, Tryd.ntmps5
        go_wp2_with fail
        refine wp_loop_rounds 3 ?_; rw [rounds_succ]; go_wp2_with (first | (go_at_call_of 19 (Value.int IntKind.i64 a); refine (money_ok a HM0.out _).mono ?_; rintro e w' ⟨rfl, rfl⟩) | (go_at_call_of 19 (Value.int IntKind.i64 b); refine (money_ok b HM1.out _).mono ?_; rintro e w' ⟨rfl, rfl⟩) | fail)
        rw [rounds_succ]; go_wp2_with (first | (go_at_call_of 19 (Value.int IntKind.i64 a); refine (money_ok a HM0.out _).mono ?_; rintro e w' ⟨rfl, rfl⟩) | (go_at_call_of 19 (Value.int IntKind.i64 b); refine (money_ok b HM1.out _).mono ?_; rintro e w' ⟨rfl, rfl⟩) | fail)
        rw [rounds_succ]; go_wp2_with (first | (go_at_call_of 19 (Value.int IntKind.i64 a); refine (money_ok a HM0.out _).mono ?_; rintro e w' ⟨rfl, rfl⟩) | (go_at_call_of 19 (Value.int IntKind.i64 b); refine (money_ok b HM1.out _).mono ?_; rintro e w' ⟨rfl, rfl⟩) | fail)
        refine bodyPost_ret (v := .tuple #[.int .i64 (a + b), .int .i64 0]) (by simp only [results, Tryd.results5]; go_simp) rfl ?_
        exact ⟨⟨_, by rw [HE.out]⟩, Below.refl _ _⟩
    · have HE : Hid (addQ a b = 2) := aside (by unfold addQ; rw [if_pos m0, if_neg m1])
      have HM0 := aside m0
      have HM1 := aside m1
      obtain ⟨ma, mb⟩ := m0
      have ws0 : wrap64 (0 + a) = a := by unfold wrap64; omega
      clear m1
      all_goals go_enter Tryd.func5, Tryd.ntmps5
      all_goals go_wp2_with fail
      all_goals (refine wp_loop_rounds 3 ?_; rw [rounds_succ]; go_wp2_with (first | (go_at_call_of 19 (Value.int IntKind.i64 a); refine (money_ok a HM0.out _).mono ?_; rintro e w' ⟨rfl, rfl⟩) | (go_at_call_of 19 (Value.int IntKind.i64 b); refine (money_bad b HM1.out _).mono ?_; rintro e w' ⟨rfl, rfl⟩) | fail))
      all_goals (rw [rounds_succ]; go_wp2_with (first | (go_at_call_of 19 (Value.int IntKind.i64 a); refine (money_ok a HM0.out _).mono ?_; rintro e w' ⟨rfl, rfl⟩) | (go_at_call_of 19 (Value.int IntKind.i64 b); refine (money_bad b HM1.out _).mono ?_; rintro e w' ⟨rfl, rfl⟩) | fail))
      all_goals refine bodyPost_ret (v := .tuple #[.int .i64 0, .int .i64 2]) (by simp only [results, Tryd.results5]; go_simp) rfl ?_
      all_goals exact ⟨⟨_, by rw [HE.out]⟩, Below.refl _ _⟩
  · have HE : Hid (addQ a b = 2) := aside (by unfold addQ; rw [if_neg m0])
    have HM0 := aside m0
    clear m0
    all_goals go_enter Tryd.func5, Tryd.ntmps5
    all_goals go_wp2_with fail
    all_goals (refine wp_loop_rounds 3 ?_; rw [rounds_succ]; go_wp2_with (first | (go_at_call_of 19 (Value.int IntKind.i64 a); refine (money_bad a HM0.out _).mono ?_; rintro e w' ⟨rfl, rfl⟩) | fail))
    all_goals refine bodyPost_ret (v := .tuple #[.int .i64 0, .int .i64 2]) (by simp only [results, Tryd.results5]; go_simp) rfl ?_
    all_goals exact ⟨⟨_, by rw [HE.out]⟩, Below.refl _ _⟩
end Go.Proofs.YtpkclbemgmaahaaDoor
