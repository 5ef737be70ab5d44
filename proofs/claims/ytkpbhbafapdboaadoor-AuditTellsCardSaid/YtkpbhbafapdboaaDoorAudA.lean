/- The audit's money: what is checked and added. Conditions: named in each theorem. -/
import Derived.Test.YtkpbhbafapdboaaDoorSizeB
namespace Go.Proofs.YtkpbhbafapdboaaDoor
open Go.RowKit Go.ChangeShapes Go.WideShapes Go.ChangeAt

/-- An error of the program: nil (0), or an Errno of a number that is not 0. -/
def errA (k : Int) : Value := if k = 0 then .nilIface else .iface 40 (.int .i64 k)
/-- An amount that may be. -/
def Mny (a : Int) : Prop := 0 ≤ a ∧ a ≤ 1125899906842624
instance (a : Int) : Decidable (Mny a) := by unfold Mny; exact inferInstance
/-- What is wrong with an amount. -/
def chkQ (a : Int) : Int := if Mny a then 0 else 2
/-- What is wrong with a sum of two. -/
def addQ (a b : Int) : Int := if ¬ Mny a then 2 else if ¬ Mny b then 2 else if 1125899906842624 < a + b then 4 else 0
theorem addQ_zero {a b : Int} : addQ a b = 0 ↔ Mny a ∧ Mny b ∧ a + b ≤ 1125899906842624 := by
  unfold addQ
  split
  · simp_all
  · split
    · simp_all
    · split
      · simp_all
      · simp_all
theorem check_ok (a : Int) (h : Mny a) (w : World) : Calls Tryd.prog 24 #[.int .i64 a] w (fun e w' => e = .returned .nilIface ∧ w' = w) := by
  have e1 : (a < 0) = False := by simp only [eq_iff_iff, iff_false]; exact Int.not_lt.2 h.1
  have e2 : ((1125899906842624 : Int) < a) = False := by simp only [eq_iff_iff, iff_false]; exact Int.not_lt.2 h.2
  clear h
  go_enter Tryd.func24, Tryd.ntmps24
  go_wp2
  go_ret
  exact ⟨rfl, rfl⟩
theorem check_bad (a : Int) (h : ¬ Mny a) (w : World) : Calls Tryd.prog 24 #[.int .i64 a] w (fun e w' => e = .returned (.iface 40 (.int .i64 2)) ∧ w' = w) := by
  unfold Mny at h
  by_cases e1 : a < 0
  · clear h
    go_enter Tryd.func24, Tryd.ntmps24
    go_wp2
    go_ret
    exact ⟨rfl, rfl⟩
  · have e2 : (1125899906842624 : Int) < a := by omega
    have e3 : (a < 0) = False := by simp only [eq_iff_iff, iff_false]; exact e1
    clear h e1
    go_enter Tryd.func24, Tryd.ntmps24
    go_wp2
    go_ret
    exact ⟨rfl, rfl⟩
theorem check_any (a : Int) (w : World) : Calls Tryd.prog 24 #[.int .i64 a] w (fun e w' => e = .returned (errA (chkQ a)) ∧ w' = w) := by
  unfold chkQ
  by_cases h : Mny a
  · rw [if_pos h]; exact check_ok a h w
  · rw [if_neg h]; exact check_bad a h w

/-- What adding two tells. -/
def addV (a b : Int) : Value := .tuple #[.int .i64 (if addQ a b = 0 then a + b else 0), errA (addQ a b)]
set_option maxRecDepth 100000 in
theorem two_any (a b : Int) (g : Nat) (w : World) (h0 : w.cell? ⟨g, 0, none⟩ = some (.int .i64 a)) (h1 : w.cell? ⟨g, 1, none⟩ = some (.int .i64 b)) :
    Calls Tryd.prog 49 #[.slice (some ⟨g, 0, none⟩) 2 2] w (fun e w' => e = .returned (addV a b) ∧ w' = w) := by
  by_cases ha : Mny a
  rotate_left
  · have hq : addV a b = .tuple #[.int .i64 0, .iface 40 (.int .i64 2)] := by simp [addV, addQ, ha, errA]
    rw [hq]
    have HA := aside ha
    clear ha hq
    go_enter Tryd.func49, Tryd.ntmps49
    go_wp2_with fail
    refine wp_loop_rounds 1 ?_
    rw [rounds_succ]
    go_wp2_with (first | (go_at_call 24; refine (check_bad a HA.out _).mono ?_; rintro e w' ⟨rfl, rfl⟩) | fail)
    go_ret2
    exact ⟨rfl, rfl⟩
  have b1 : 0 ≤ a := ha.1
  have b2 : a ≤ 1125899906842624 := ha.2
  have e2 : ((1125899906842624 : Int) < a) = False := by simp only [eq_iff_iff, iff_false]; omega
  by_cases hb : Mny b
  rotate_left
  · have hq : addV a b = .tuple #[.int .i64 0, .iface 40 (.int .i64 2)] := by simp [addV, addQ, ha, hb, errA]
    rw [hq]
    have HA := aside ha
    have HB := aside hb
    clear ha hq hb
    go_enter Tryd.func49, Tryd.ntmps49
    go_wp2_with fail
    refine wp_loop_rounds 2 ?_
    rw [rounds_succ]
    go_wp2_with (first | (go_at_call 24; refine (check_ok a HA.out _).mono ?_; rintro e w' ⟨rfl, rfl⟩) | fail)
    rw [rounds_succ]
    go_wp2_with (first | (go_at_call 24; refine (check_bad b HB.out _).mono ?_; rintro e w' ⟨rfl, rfl⟩) | fail)
    go_ret2
    exact ⟨rfl, rfl⟩
  have b3 : 0 ≤ b := hb.1
  have b4 : b ≤ 1125899906842624 := hb.2
  by_cases hs : 1125899906842624 < a + b
  · have hq : addV a b = .tuple #[.int .i64 0, .iface 40 (.int .i64 4)] := by simp [addV, addQ, ha, hb, hs, errA]
    rw [hq]
    have HA := aside ha
    have HB := aside hb
    clear ha hq hb
    go_enter Tryd.func49, Tryd.ntmps49
    go_wp2_with fail
    refine wp_loop_rounds 2 ?_
    rw [rounds_succ]
    go_wp2_with (first | (go_at_call 24; refine (check_ok a HA.out _).mono ?_; rintro e w' ⟨rfl, rfl⟩) | fail)
    rw [rounds_succ]
    go_wp2_with (first | (go_at_call 24; refine (check_ok b HB.out _).mono ?_; rintro e w' ⟨rfl, rfl⟩) | fail)
    go_ret2
    exact ⟨rfl, rfl⟩
  · have hq : addV a b = .tuple #[.int .i64 (a + b), .nilIface] := by simp [addV, addQ, ha, hb, hs, errA]
    rw [hq]
    have e3 : ((1125899906842624 : Int) < a + b) = False := by simp only [eq_iff_iff, iff_false]; exact hs
    have HA := aside ha
    have HB := aside hb
    clear ha hq hb hs
    go_enter Tryd.func49, Tryd.ntmps49
    go_wp2_with fail
    refine wp_loop_rounds 3 ?_
    rw [rounds_succ]
    go_wp2_with (first | (go_at_call 24; refine (check_ok a HA.out _).mono ?_; rintro e w' ⟨rfl, rfl⟩) | fail)
    rw [rounds_succ]
    go_wp2_with (first | (go_at_call 24; refine (check_ok b HB.out _).mono ?_; rintro e w' ⟨rfl, rfl⟩) | fail)
    rw [rounds_succ]
    go_wp2
    go_ret2
    exact ⟨rfl, rfl⟩
theorem add_any (a b : Int) (w : World) : Calls Tryd.prog 37 #[.int .i64 a, .int .i64 b] w (fun e w' => e = .returned (addV a b) ∧ Below w.heap.size w w') := by
  obtain ⟨s, E, hv⟩ : ∃ s E, addV a b = .tuple #[.int .i64 s, E] := ⟨_, _, rfl⟩
  have HV := aside hv
  rw [hv]
  clear hv
  go_enter Tryd.func37, Tryd.ntmps37
  go_wp2_with fail
  refine (two_any a b w.heap.size _ ?_ ?_).mono ?_
  · simp
  · simp
  rw [HV.out]
  rintro e w' ⟨rfl, rfl⟩
  go_wp2_with fail
  go_ret2
  exact ⟨rfl, (Below.refl _ _).alloc (Nat.le_refl _) _⟩
end Go.Proofs.YtkpbhbafapdboaaDoor
