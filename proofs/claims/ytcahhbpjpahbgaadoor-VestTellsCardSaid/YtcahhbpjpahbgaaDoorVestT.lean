/- VestTells: any grant, any time, any times. Condition: errors.errorType reads as the program's text lays it (the card ties it). -/
import Derived.Test.YtcahhbpjpahbgaaDoorVestSt
import Derived.Test.YtcahhbpjpahbgaaDoorErr
import Derived.Test.YtcahhbpjpahbgaaDoorInts
import Derived.Deep.RegionWith
import Derived.IntWalk
namespace Go.Proofs.YtcahhbpjpahbgaaDoor
open Go.RowKit Go.ChangeShapes Go.WideShapes Go.ChangeAt

theorem PostCheck.err {t s c l : Int} {w w' : World} {e : Ending} (h : PostCheck t s c l w e w') : ∃ q, e = .returned (errOf q) ∧ ((GOk t s c l ∧ q = 0) ∨ (¬ GOk t s c l ∧ q = 2)) ∧ Below w.heap.size w w' := by
  obtain ⟨v, rfl, ⟨h1, rfl⟩ | ⟨h1, rfl⟩, rfl⟩ := h
  · exact ⟨0, rfl, .inl ⟨h1, rfl⟩, (Below.refl _ _).alloc (Nat.le_refl _) _⟩
  · exact ⟨2, rfl, .inr ⟨h1, rfl⟩, (Below.refl _ _).alloc (Nat.le_refl _) _⟩
theorem PostAt.err {t s c l now : Int} {w w' : World} {e : Ending} (h : PostAt t s c l now w e w') : ∃ n q, e = .returned (.tuple #[.int .i64 n, errOf q]) ∧ ((AtOk t s c l now ∧ q = 0 ∧ n = vested t s c l now) ∨ (¬ AtOk t s c l now ∧ q = 2 ∧ n = 0)) ∧ Below w.heap.size w w' := by
  obtain ⟨n, v, rfl, ⟨h1, rfl, rfl⟩ | ⟨h1, rfl, rfl⟩, hb⟩ := h
  · exact ⟨_, 0, rfl, .inl ⟨h1, rfl, rfl⟩, hb⟩
  · exact ⟨0, 2, rfl, .inr ⟨h1, rfl, rfl⟩, hb⟩
theorem PostSteps.err {t s c l : Int} {ts : List Int} {w w' : World} {e : Ending} (h : PostSteps t s c l ts w e w') : ∃ A n c' q, e = .returned (.tuple #[.slice A n c', errOf q]) ∧ Below w.heap.size w w' ∧
    ((GOk t s c l ∧ ts.length ≤ 100 ∧ FineTo ts ts.length ∧ q = 0 ∧ n = ts.length ∧ ISl w' w'.heap.size A n (stepsTo t s c l ts ts.length)) ∨ (StepsErr t s c l ts q ∧ q ≠ 0 ∧ n = 0)) := by
  obtain ⟨A, n, c', v, rfl, hb, ⟨h1, h2, h3, rfl, h4, _, _, h5⟩ | ⟨k, h1, rfl, rfl, rfl, rfl⟩⟩ := h
  · exact ⟨A, n, c', 0, rfl, hb, .inl ⟨h1, h2, h3, rfl, h4, h5⟩⟩
  · have hk : k ≠ 0 := by
      rcases h1 with ⟨_, rfl⟩ | ⟨_, _, rfl⟩ | ⟨_, _, _, _, _, ⟨_, rfl⟩ | ⟨_, _, _, rfl⟩⟩ <;> decide
    exact ⟨none, 0, 0, k, by rw [errOf_no hk], hb, .inr ⟨h1, hk, rfl⟩⟩

theorem stepsErr_uniq {t s c l : Int} {ts : List Int} {a b : Int} (ha : StepsErr t s c l ts a) (hb : StepsErr t s c l ts b) : a = b := by
  rcases ha with ⟨h1, rfl⟩ | ⟨h1, h2, rfl⟩ | ⟨h1, h2, i, hi, hf, hh⟩
  · rcases hb with ⟨_, rfl⟩ | ⟨g1, _, _⟩ | ⟨g1, _⟩
    · rfl
    · exact absurd g1 h1
    · exact absurd g1 h1
  · rcases hb with ⟨g1, _⟩ | ⟨_, _, rfl⟩ | ⟨_, g2, _⟩
    · exact absurd h1 g1
    · rfl
    · omega
  · rcases hb with ⟨g1, _⟩ | ⟨_, g2, _⟩ | ⟨_, _, j, hj, gf, gg⟩
    · exact absurd h1 g1
    · omega
    · rcases Nat.lt_trichotomy i j with h | h | h
      · have := gf i h
        rcases hh with ⟨x, _⟩ | ⟨_, x1, x2, _⟩
        · exact absurd this.1 x
        · have := this.2 x1; omega
      · subst h
        rcases hh with ⟨x, rfl⟩ | ⟨x, _, _, rfl⟩
        · rcases gg with ⟨_, rfl⟩ | ⟨y, _, _, _⟩
          · rfl
          · exact absurd y x
        · rcases gg with ⟨y, _⟩ | ⟨_, _, _, rfl⟩
          · exact absurd x y
          · rfl
      · have := hf j h
        rcases gg with ⟨x, _⟩ | ⟨_, x1, x2, _⟩
        · exact absurd this.1 x
        · have := this.2 x1; omega
theorem stepsErr_no {t s c l : Int} {ts : List Int} {a : Int} (h : StepsErr t s c l ts a) (h1 : GOk t s c l) (h2 : ts.length ≤ 100) (h3 : FineTo ts ts.length) : False := by
  rcases h with ⟨g, _⟩ | ⟨_, g, _⟩ | ⟨_, _, i, hi, _, hh⟩
  · exact g h1
  · omega
  · have := h3 i hi
    rcases hh with ⟨x, _⟩ | ⟨_, x1, x2, _⟩
    · exact x this.1
    · have := this.2 x1; omega

def PostFault (t s c l : Int) (w : World) (e : Ending) (w' : World) : Prop := ∃ q, e = .returned (.int .i64 q) ∧ ((GOk t s c l ∧ q = 0) ∨ (¬ GOk t s c l ∧ q = 2)) ∧ Below w.heap.size w w'

set_option maxHeartbeats 1000000 in
theorem fault_any (t s c l : Int) (w : World) : Calls Tryd.prog 5 #[.agg #[.int .i64 t, .int .i64 s, .int .i64 c, .int .i64 l]] w (PostFault t s c l w) := by
  go_enter Tryd.func5, Tryd.ntmps5
  go_wp2
  all_goals go_ret
  all_goals refine ⟨_, rfl, ?_, (Below.refl _ _).alloc (Nat.le_refl _) _⟩
  all_goals first | exact .inl ⟨by unfold GOk; omega, rfl⟩ | exact .inr ⟨by unfold GOk; omega, rfl⟩

def PostRefV (t s c l now : Int) (w : World) (e : Ending) (w' : World) : Prop :=
  ∃ n q, e = .returned (.tuple #[.int .i64 n, .int .i64 q]) ∧ ((TimeOk now ∧ q = 0 ∧ n = vested t s c l now) ∨ (¬ TimeOk now ∧ q = 2 ∧ n = 0)) ∧ Below w.heap.size w w'

theorem upTo_yes (n m : Int) (w : World) (h0 : 0 ≤ n) (h1 : n ≤ m) : Calls Tryd.prog 12 #[.int .i64 n, .int .i64 m] w fun e w' => e = .returned (.bool true) ∧ w = w' := by
  have h := decide_eq_true h1
  go_enter Tryd.func12, Tryd.ntmps12
  go_wp2
  all_goals go_ret
  exact ⟨by simp, rfl⟩
theorem upTo_no (n m : Int) (w : World) (h : n < 0 ∨ m < n) : Calls Tryd.prog 12 #[.int .i64 n, .int .i64 m] w fun e w' => e = .returned (.bool false) ∧ w = w' := by
  rcases h with h | h
  · go_enter Tryd.func12, Tryd.ntmps12
    go_wp2
    go_ret
    exact ⟨rfl, rfl⟩
  · have h2 : decide (n ≤ m) = false := by simp; omega
    go_enter Tryd.func12, Tryd.ntmps12
    go_wp2
    all_goals go_ret
    · exact ⟨by simp, rfl⟩
    · exact ⟨rfl, rfl⟩

set_option maxHeartbeats 1000000 in
theorem refV_any (t s c l now : Int) (w : World) (hok : GOk t s c l) : Calls Tryd.prog 8 #[.agg #[.int .i64 t, .int .i64 s, .int .i64 c, .int .i64 l], .int .i64 now] w (PostRefV t s c l now w) := by
  obtain ⟨h1, h2, h3, h4, h5, h6, h7, h8, h9, h10⟩ := hok
  clear h9
  by_cases hn : 0 ≤ now ∧ now ≤ 4294967296
  · obtain ⟨hn1, hn2⟩ := hn
    by_cases hc : now - s < c
    · have q1 : now < s + c := by omega
      go_enter Tryd.func8, Tryd.ntmps8
      go_wp2_with (go_at_call 12; refine (upTo_yes _ _ _ hn1 hn2).mono ?_; rintro e w' ⟨rfl, rfl⟩)
      go_ret2
      go_tidy
      exact ⟨_, _, rfl, .inl ⟨⟨hn1, hn2⟩, rfl, (vested_early hc).symm⟩, (Below.refl _ _).alloc (Nat.le_refl _) _⟩
    · by_cases hl : l ≤ now - s
      · have q1 : ¬ now < s + c := by omega
        have q2 : s + l ≤ now := by omega
        go_enter Tryd.func8, Tryd.ntmps8
        go_wp2_with (go_at_call 12; refine (upTo_yes _ _ _ hn1 hn2).mono ?_; rintro e w' ⟨rfl, rfl⟩)
        go_ret2
        go_tidy
        exact ⟨_, _, rfl, .inl ⟨⟨hn1, hn2⟩, rfl, (vested_all (by omega) hl).symm⟩, (Below.refl _ _).alloc (Nat.le_refl _) _⟩
      · obtain ⟨hm1, hm2⟩ := mul_bd t (now - s) l h1 h2 (by omega) (by omega) h8
        have q1 : ¬ now < s + c := by omega
        have q2 : ¬ s + l ≤ now := by omega
        go_enter Tryd.func8, Tryd.ntmps8
        go_wp2_with (go_at_call 12; refine (upTo_yes _ _ _ hn1 hn2).mono ?_; rintro e w' ⟨rfl, rfl⟩)
        go_ret2
        go_tidy
        exact ⟨_, _, rfl, .inl ⟨⟨hn1, hn2⟩, rfl, (vested_mid (by omega) (by omega)).symm⟩, (Below.refl _ _).alloc (Nat.le_refl _) _⟩
  · have hn' : now < 0 ∨ 4294967296 < now := by omega
    clear hn
    go_enter Tryd.func8, Tryd.ntmps8
    go_wp2_with (go_at_call 12; refine (upTo_no _ _ _ hn').mono ?_; rintro e w' ⟨rfl, rfl⟩)
    go_ret2
    go_tidy
    exact ⟨_, _, rfl, .inr ⟨fun h => by have := h.1; have := h.2; omega, rfl, rfl⟩, (Below.refl _ _).alloc (Nat.le_refl _) _⟩
end Go.Proofs.YtcahhbpjpahbgaaDoor
