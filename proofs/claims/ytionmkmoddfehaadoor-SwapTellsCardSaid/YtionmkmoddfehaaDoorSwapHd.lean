/- The walks of swap.Gain and of the dealt witness. No condition. -/
import Derived.Test.YtionmkmoddfehaaDoorSwapE
namespace Go.Proofs.YtionmkmoddfehaaDoor
open Go.RowKit Go.ChangeShapes Go.WideShapes Go.ChangeAt

def PostGain (n : Int) (w : World) (e : Ending) (w' : World) : Prop := e = .returned (.int .i64 n) ∧ Below w.heap.size w w'
def gainOf (d : Deal) (who : Int) : Int :=
  if who = 0 then (if d.s0 = 2 then (if d.s1 = 2 then wrap64 (wrap64 (-d.g0) + d.g1) else wrap64 (-d.g0)) else if d.s1 = 2 then wrap64 d.g1 else 0)
  else if who = 1 then (if d.s0 = 2 then (if d.s1 = 2 then wrap64 (wrap64 d.g0 - d.g1) else wrap64 d.g0) else if d.s1 = 2 then wrap64 (-d.g1) else 0)
  else 0

set_option maxHeartbeats 4000000 in
theorem gain_0_22 (g0 g1 e0 e1 nw : Int) (kn : Bool) (w : World) :
    Calls Tryd.prog 8 #[.agg #[.int .i64 g0, .int .i64 g1, .int .i64 e0, .int .i64 e1, .int .i64 2, .int .i64 2, .bool kn, .int .i64 nw], .int .i64 0] w (PostGain (gainOf ⟨g0, g1, e0, e1, 2, 2, kn, nw⟩ 0) w) := by
  have i0 := Tryd.idx0
  have i1 := Tryd.idx1
  have hg : Hid (gainOf ⟨g0, g1, e0, e1, 2, 2, kn, nw⟩ 0 = gainOf ⟨g0, g1, e0, e1, 2, 2, kn, nw⟩ 0) := aside rfl
  have hk : gainOf ⟨g0, g1, e0, e1, 2, 2, kn, nw⟩ 0 = wrap64 (wrap64 (-g0) + g1) := by simp [gainOf]
  rw [hk]
  clear hk hg
  go_enter Tryd.func8, Tryd.ntmps8
  go_wp2
  all_goals try (refine wp_loop_rounds 3 ?_; rw [rounds_succ]; go_wp2)
  all_goals try (rw [rounds_succ]; go_wp2)
  all_goals try (rw [rounds_succ]; go_wp2)
  all_goals go_ret
  all_goals go_tidy
  all_goals exact ⟨by first | rfl | simp, (Below.refl _ _).alloc (Nat.le_refl _) _⟩

set_option maxHeartbeats 4000000 in
theorem gain_0_2x (g0 g1 e0 e1 nw s1 : Int) (kn : Bool) (w : World) (hs1 : s1 ≠ 2) :
    Calls Tryd.prog 8 #[.agg #[.int .i64 g0, .int .i64 g1, .int .i64 e0, .int .i64 e1, .int .i64 2, .int .i64 s1, .bool kn, .int .i64 nw], .int .i64 0] w (PostGain (gainOf ⟨g0, g1, e0, e1, 2, s1, kn, nw⟩ 0) w) := by
  have i0 := Tryd.idx0
  have i1 := Tryd.idx1
  have b1 : (s1 != 2) = true := by simpa using hs1
  have hg : Hid (gainOf ⟨g0, g1, e0, e1, 2, s1, kn, nw⟩ 0 = gainOf ⟨g0, g1, e0, e1, 2, s1, kn, nw⟩ 0) := aside rfl
  have hk : gainOf ⟨g0, g1, e0, e1, 2, s1, kn, nw⟩ 0 = wrap64 (-g0) := by simp [gainOf, hs1]
  rw [hk]
  clear hk hg hs1
  go_enter Tryd.func8, Tryd.ntmps8
  go_wp2
  all_goals try (refine wp_loop_rounds 3 ?_; rw [rounds_succ]; go_wp2)
  all_goals try (rw [rounds_succ]; go_wp2)
  all_goals try (rw [rounds_succ]; go_wp2)
  all_goals go_ret
  all_goals go_tidy
  all_goals exact ⟨by first | rfl | simp, (Below.refl _ _).alloc (Nat.le_refl _) _⟩

set_option maxHeartbeats 4000000 in
theorem gain_0_x2 (g0 g1 e0 e1 nw s0 : Int) (kn : Bool) (w : World) (hs0 : s0 ≠ 2) :
    Calls Tryd.prog 8 #[.agg #[.int .i64 g0, .int .i64 g1, .int .i64 e0, .int .i64 e1, .int .i64 s0, .int .i64 2, .bool kn, .int .i64 nw], .int .i64 0] w (PostGain (gainOf ⟨g0, g1, e0, e1, s0, 2, kn, nw⟩ 0) w) := by
  have i0 := Tryd.idx0
  have i1 := Tryd.idx1
  have b0 : (s0 != 2) = true := by simpa using hs0
  have hg : Hid (gainOf ⟨g0, g1, e0, e1, s0, 2, kn, nw⟩ 0 = gainOf ⟨g0, g1, e0, e1, s0, 2, kn, nw⟩ 0) := aside rfl
  have hk : gainOf ⟨g0, g1, e0, e1, s0, 2, kn, nw⟩ 0 = wrap64 g1 := by simp [gainOf, hs0]
  rw [hk]
  clear hk hg hs0
  go_enter Tryd.func8, Tryd.ntmps8
  go_wp2
  all_goals try (refine wp_loop_rounds 3 ?_; rw [rounds_succ]; go_wp2)
  all_goals try (rw [rounds_succ]; go_wp2)
  all_goals try (rw [rounds_succ]; go_wp2)
  all_goals go_ret
  all_goals go_tidy
  all_goals exact ⟨by first | rfl | simp, (Below.refl _ _).alloc (Nat.le_refl _) _⟩

set_option maxHeartbeats 4000000 in
theorem gain_0_xx (g0 g1 e0 e1 nw s0 s1 : Int) (kn : Bool) (w : World) (hs0 : s0 ≠ 2) (hs1 : s1 ≠ 2) :
    Calls Tryd.prog 8 #[.agg #[.int .i64 g0, .int .i64 g1, .int .i64 e0, .int .i64 e1, .int .i64 s0, .int .i64 s1, .bool kn, .int .i64 nw], .int .i64 0] w (PostGain (gainOf ⟨g0, g1, e0, e1, s0, s1, kn, nw⟩ 0) w) := by
  have i0 := Tryd.idx0
  have i1 := Tryd.idx1
  have b0 : (s0 != 2) = true := by simpa using hs0
  have b1 : (s1 != 2) = true := by simpa using hs1
  have hg : Hid (gainOf ⟨g0, g1, e0, e1, s0, s1, kn, nw⟩ 0 = gainOf ⟨g0, g1, e0, e1, s0, s1, kn, nw⟩ 0) := aside rfl
  have hk : gainOf ⟨g0, g1, e0, e1, s0, s1, kn, nw⟩ 0 = 0 := by simp [gainOf, hs0, hs1]
  rw [hk]
  clear hk hg hs0 hs1
  go_enter Tryd.func8, Tryd.ntmps8
  go_wp2
  all_goals try (refine wp_loop_rounds 3 ?_; rw [rounds_succ]; go_wp2)
  all_goals try (rw [rounds_succ]; go_wp2)
  all_goals try (rw [rounds_succ]; go_wp2)
  all_goals go_ret
  all_goals go_tidy
  all_goals exact ⟨by first | rfl | simp, (Below.refl _ _).alloc (Nat.le_refl _) _⟩

set_option maxHeartbeats 4000000 in
theorem gain_1_22 (g0 g1 e0 e1 nw : Int) (kn : Bool) (w : World) :
    Calls Tryd.prog 8 #[.agg #[.int .i64 g0, .int .i64 g1, .int .i64 e0, .int .i64 e1, .int .i64 2, .int .i64 2, .bool kn, .int .i64 nw], .int .i64 1] w (PostGain (gainOf ⟨g0, g1, e0, e1, 2, 2, kn, nw⟩ 1) w) := by
  have i0 := Tryd.idx0
  have i1 := Tryd.idx1
  have hg : Hid (gainOf ⟨g0, g1, e0, e1, 2, 2, kn, nw⟩ 1 = gainOf ⟨g0, g1, e0, e1, 2, 2, kn, nw⟩ 1) := aside rfl
  have hk : gainOf ⟨g0, g1, e0, e1, 2, 2, kn, nw⟩ 1 = wrap64 (wrap64 g0 - g1) := by simp [gainOf]
  rw [hk]
  clear hk hg
  go_enter Tryd.func8, Tryd.ntmps8
  go_wp2
  all_goals try (refine wp_loop_rounds 3 ?_; rw [rounds_succ]; go_wp2)
  all_goals try (rw [rounds_succ]; go_wp2)
  all_goals try (rw [rounds_succ]; go_wp2)
  all_goals go_ret
  all_goals go_tidy
  all_goals exact ⟨by first | rfl | simp, (Below.refl _ _).alloc (Nat.le_refl _) _⟩

set_option maxHeartbeats 4000000 in
theorem gain_1_2x (g0 g1 e0 e1 nw s1 : Int) (kn : Bool) (w : World) (hs1 : s1 ≠ 2) :
    Calls Tryd.prog 8 #[.agg #[.int .i64 g0, .int .i64 g1, .int .i64 e0, .int .i64 e1, .int .i64 2, .int .i64 s1, .bool kn, .int .i64 nw], .int .i64 1] w (PostGain (gainOf ⟨g0, g1, e0, e1, 2, s1, kn, nw⟩ 1) w) := by
  have i0 := Tryd.idx0
  have i1 := Tryd.idx1
  have b1 : (s1 != 2) = true := by simpa using hs1
  have hg : Hid (gainOf ⟨g0, g1, e0, e1, 2, s1, kn, nw⟩ 1 = gainOf ⟨g0, g1, e0, e1, 2, s1, kn, nw⟩ 1) := aside rfl
  have hk : gainOf ⟨g0, g1, e0, e1, 2, s1, kn, nw⟩ 1 = wrap64 g0 := by simp [gainOf, hs1]
  rw [hk]
  clear hk hg hs1
  go_enter Tryd.func8, Tryd.ntmps8
  go_wp2
  all_goals try (refine wp_loop_rounds 3 ?_; rw [rounds_succ]; go_wp2)
  all_goals try (rw [rounds_succ]; go_wp2)
  all_goals try (rw [rounds_succ]; go_wp2)
  all_goals go_ret
  all_goals go_tidy
  all_goals exact ⟨by first | rfl | simp, (Below.refl _ _).alloc (Nat.le_refl _) _⟩

set_option maxHeartbeats 4000000 in
theorem gain_1_x2 (g0 g1 e0 e1 nw s0 : Int) (kn : Bool) (w : World) (hs0 : s0 ≠ 2) :
    Calls Tryd.prog 8 #[.agg #[.int .i64 g0, .int .i64 g1, .int .i64 e0, .int .i64 e1, .int .i64 s0, .int .i64 2, .bool kn, .int .i64 nw], .int .i64 1] w (PostGain (gainOf ⟨g0, g1, e0, e1, s0, 2, kn, nw⟩ 1) w) := by
  have i0 := Tryd.idx0
  have i1 := Tryd.idx1
  have b0 : (s0 != 2) = true := by simpa using hs0
  have hg : Hid (gainOf ⟨g0, g1, e0, e1, s0, 2, kn, nw⟩ 1 = gainOf ⟨g0, g1, e0, e1, s0, 2, kn, nw⟩ 1) := aside rfl
  have hk : gainOf ⟨g0, g1, e0, e1, s0, 2, kn, nw⟩ 1 = wrap64 (-g1) := by simp [gainOf, hs0]
  rw [hk]
  clear hk hg hs0
  go_enter Tryd.func8, Tryd.ntmps8
  go_wp2
  all_goals try (refine wp_loop_rounds 3 ?_; rw [rounds_succ]; go_wp2)
  all_goals try (rw [rounds_succ]; go_wp2)
  all_goals try (rw [rounds_succ]; go_wp2)
  all_goals go_ret
  all_goals go_tidy
  all_goals exact ⟨by first | rfl | simp, (Below.refl _ _).alloc (Nat.le_refl _) _⟩

set_option maxHeartbeats 4000000 in
theorem gain_1_xx (g0 g1 e0 e1 nw s0 s1 : Int) (kn : Bool) (w : World) (hs0 : s0 ≠ 2) (hs1 : s1 ≠ 2) :
    Calls Tryd.prog 8 #[.agg #[.int .i64 g0, .int .i64 g1, .int .i64 e0, .int .i64 e1, .int .i64 s0, .int .i64 s1, .bool kn, .int .i64 nw], .int .i64 1] w (PostGain (gainOf ⟨g0, g1, e0, e1, s0, s1, kn, nw⟩ 1) w) := by
  have i0 := Tryd.idx0
  have i1 := Tryd.idx1
  have b0 : (s0 != 2) = true := by simpa using hs0
  have b1 : (s1 != 2) = true := by simpa using hs1
  have hg : Hid (gainOf ⟨g0, g1, e0, e1, s0, s1, kn, nw⟩ 1 = gainOf ⟨g0, g1, e0, e1, s0, s1, kn, nw⟩ 1) := aside rfl
  have hk : gainOf ⟨g0, g1, e0, e1, s0, s1, kn, nw⟩ 1 = 0 := by simp [gainOf, hs0, hs1]
  rw [hk]
  clear hk hg hs0 hs1
  go_enter Tryd.func8, Tryd.ntmps8
  go_wp2
  all_goals try (refine wp_loop_rounds 3 ?_; rw [rounds_succ]; go_wp2)
  all_goals try (rw [rounds_succ]; go_wp2)
  all_goals try (rw [rounds_succ]; go_wp2)
  all_goals go_ret
  all_goals go_tidy
  all_goals exact ⟨by first | rfl | simp, (Below.refl _ _).alloc (Nat.le_refl _) _⟩

set_option maxHeartbeats 4000000 in
theorem gain_w_22 (g0 g1 e0 e1 nw who : Int) (kn : Bool) (w : World) (h0 : who ≠ 0) (h1 : who ≠ 1) :
    Calls Tryd.prog 8 #[.agg #[.int .i64 g0, .int .i64 g1, .int .i64 e0, .int .i64 e1, .int .i64 2, .int .i64 2, .bool kn, .int .i64 nw], .int .i64 who] w (PostGain (gainOf ⟨g0, g1, e0, e1, 2, 2, kn, nw⟩ who) w) := by
  have i0 := Tryd.idx0
  have i1 := Tryd.idx1
  have c0 : (who != 0) = true := by simpa using h0
  have c1 : (who != 1) = true := by simpa using h1
  have hg : Hid (gainOf ⟨g0, g1, e0, e1, 2, 2, kn, nw⟩ who = gainOf ⟨g0, g1, e0, e1, 2, 2, kn, nw⟩ who) := aside rfl
  have hk : gainOf ⟨g0, g1, e0, e1, 2, 2, kn, nw⟩ who = 0 := by simp [gainOf, h0, h1]
  rw [hk]
  clear hk hg h0 h1
  go_enter Tryd.func8, Tryd.ntmps8
  go_wp2
  all_goals try (refine wp_loop_rounds 3 ?_; rw [rounds_succ]; go_wp2)
  all_goals try (rw [rounds_succ]; go_wp2)
  all_goals try (rw [rounds_succ]; go_wp2)
  all_goals go_ret
  all_goals go_tidy
  all_goals exact ⟨by first | rfl | simp, (Below.refl _ _).alloc (Nat.le_refl _) _⟩

set_option maxHeartbeats 4000000 in
theorem gain_w_2x (g0 g1 e0 e1 nw s1 who : Int) (kn : Bool) (w : World) (hs1 : s1 ≠ 2) (h0 : who ≠ 0) (h1 : who ≠ 1) :
    Calls Tryd.prog 8 #[.agg #[.int .i64 g0, .int .i64 g1, .int .i64 e0, .int .i64 e1, .int .i64 2, .int .i64 s1, .bool kn, .int .i64 nw], .int .i64 who] w (PostGain (gainOf ⟨g0, g1, e0, e1, 2, s1, kn, nw⟩ who) w) := by
  have i0 := Tryd.idx0
  have i1 := Tryd.idx1
  have b1 : (s1 != 2) = true := by simpa using hs1
  have c0 : (who != 0) = true := by simpa using h0
  have c1 : (who != 1) = true := by simpa using h1
  have hg : Hid (gainOf ⟨g0, g1, e0, e1, 2, s1, kn, nw⟩ who = gainOf ⟨g0, g1, e0, e1, 2, s1, kn, nw⟩ who) := aside rfl
  have hk : gainOf ⟨g0, g1, e0, e1, 2, s1, kn, nw⟩ who = 0 := by simp [gainOf, hs1, h0, h1]
  rw [hk]
  clear hk hg hs1 h0 h1
  go_enter Tryd.func8, Tryd.ntmps8
  go_wp2
  all_goals try (refine wp_loop_rounds 3 ?_; rw [rounds_succ]; go_wp2)
  all_goals try (rw [rounds_succ]; go_wp2)
  all_goals try (rw [rounds_succ]; go_wp2)
  all_goals go_ret
  all_goals go_tidy
  all_goals exact ⟨by first | rfl | simp, (Below.refl _ _).alloc (Nat.le_refl _) _⟩

set_option maxHeartbeats 4000000 in
theorem gain_w_x2 (g0 g1 e0 e1 nw s0 who : Int) (kn : Bool) (w : World) (hs0 : s0 ≠ 2) (h0 : who ≠ 0) (h1 : who ≠ 1) :
    Calls Tryd.prog 8 #[.agg #[.int .i64 g0, .int .i64 g1, .int .i64 e0, .int .i64 e1, .int .i64 s0, .int .i64 2, .bool kn, .int .i64 nw], .int .i64 who] w (PostGain (gainOf ⟨g0, g1, e0, e1, s0, 2, kn, nw⟩ who) w) := by
  have i0 := Tryd.idx0
  have i1 := Tryd.idx1
  have b0 : (s0 != 2) = true := by simpa using hs0
  have c0 : (who != 0) = true := by simpa using h0
  have c1 : (who != 1) = true := by simpa using h1
  have hg : Hid (gainOf ⟨g0, g1, e0, e1, s0, 2, kn, nw⟩ who = gainOf ⟨g0, g1, e0, e1, s0, 2, kn, nw⟩ who) := aside rfl
  have hk : gainOf ⟨g0, g1, e0, e1, s0, 2, kn, nw⟩ who = 0 := by simp [gainOf, hs0, h0, h1]
  rw [hk]
  clear hk hg hs0 h0 h1
  go_enter Tryd.func8, Tryd.ntmps8
  go_wp2
  all_goals try (refine wp_loop_rounds 3 ?_; rw [rounds_succ]; go_wp2)
  all_goals try (rw [rounds_succ]; go_wp2)
  all_goals try (rw [rounds_succ]; go_wp2)
  all_goals go_ret
  all_goals go_tidy
  all_goals exact ⟨by first | rfl | simp, (Below.refl _ _).alloc (Nat.le_refl _) _⟩

set_option maxHeartbeats 4000000 in
theorem gain_w_xx (g0 g1 e0 e1 nw s0 s1 who : Int) (kn : Bool) (w : World) (hs0 : s0 ≠ 2) (hs1 : s1 ≠ 2) (h0 : who ≠ 0) (h1 : who ≠ 1) :
    Calls Tryd.prog 8 #[.agg #[.int .i64 g0, .int .i64 g1, .int .i64 e0, .int .i64 e1, .int .i64 s0, .int .i64 s1, .bool kn, .int .i64 nw], .int .i64 who] w (PostGain (gainOf ⟨g0, g1, e0, e1, s0, s1, kn, nw⟩ who) w) := by
  have i0 := Tryd.idx0
  have i1 := Tryd.idx1
  have b0 : (s0 != 2) = true := by simpa using hs0
  have b1 : (s1 != 2) = true := by simpa using hs1
  have c0 : (who != 0) = true := by simpa using h0
  have c1 : (who != 1) = true := by simpa using h1
  have hg : Hid (gainOf ⟨g0, g1, e0, e1, s0, s1, kn, nw⟩ who = gainOf ⟨g0, g1, e0, e1, s0, s1, kn, nw⟩ who) := aside rfl
  have hk : gainOf ⟨g0, g1, e0, e1, s0, s1, kn, nw⟩ who = 0 := by simp [gainOf, hs0, hs1, h0, h1]
  rw [hk]
  clear hk hg hs0 hs1 h0 h1
  go_enter Tryd.func8, Tryd.ntmps8
  go_wp2
  all_goals try (refine wp_loop_rounds 3 ?_; rw [rounds_succ]; go_wp2)
  all_goals try (rw [rounds_succ]; go_wp2)
  all_goals try (rw [rounds_succ]; go_wp2)
  all_goals go_ret
  all_goals go_tidy
  all_goals exact ⟨by first | rfl | simp, (Below.refl _ _).alloc (Nat.le_refl _) _⟩

/-- swap.Gain, at every deal. -/
theorem gain_any (d : Deal) (who : Int) (w : World) : Calls Tryd.prog 8 #[d.v, .int .i64 who] w (PostGain (gainOf d who) w) := by
  obtain ⟨g0, g1, e0, e1, s0, s1, kn, nw⟩ := d
  by_cases hs0 : s0 = 2
  · subst hs0
    by_cases hs1 : s1 = 2
    · subst hs1
      by_cases h0 : who = 0
      · subst h0; exact gain_0_22 _ _ _ _ _ _ w
      · by_cases h1 : who = 1
        · subst h1; exact gain_1_22 _ _ _ _ _ _ w
        · exact gain_w_22 _ _ _ _ _ _ _ w h0 h1
    · by_cases h0 : who = 0
      · subst h0; exact gain_0_2x _ _ _ _ _ _ _ w hs1
      · by_cases h1 : who = 1
        · subst h1; exact gain_1_2x _ _ _ _ _ _ _ w hs1
        · exact gain_w_2x _ _ _ _ _ _ _ _ w hs1 h0 h1
  · by_cases hs1 : s1 = 2
    · subst hs1
      by_cases h0 : who = 0
      · subst h0; exact gain_0_x2 _ _ _ _ _ _ _ w hs0
      · by_cases h1 : who = 1
        · subst h1; exact gain_1_x2 _ _ _ _ _ _ _ w hs0
        · exact gain_w_x2 _ _ _ _ _ _ _ _ w hs0 h0 h1
    · by_cases h0 : who = 0
      · subst h0; exact gain_0_xx _ _ _ _ _ _ _ _ w hs0 hs1
      · by_cases h1 : who = 1
        · subst h1; exact gain_1_xx _ _ _ _ _ _ _ _ w hs0 hs1
        · exact gain_w_xx _ _ _ _ _ _ _ _ _ w hs0 hs1 h0 h1

def PostDealt (w : World) (e : Ending) (w' : World) : Prop := e = .returned (.bool true) ∧ Below w.heap.size w w'
set_option maxHeartbeats 4000000 in
theorem dealt_any (w : World) : Calls Tryd.prog 4 #[] w (PostDealt w) := by
  go_enter Tryd.func4, Tryd.ntmps4
  go_wp2_with fail
  refine (step_any ⟨5, 7, 9, 4, 0, 0, false, 0⟩ _ _ _ _).mono ?_
  rintro e w2 ⟨⟨G0n, G1n, E0n, E1n, S0n, S1n, Kn, Tn⟩, q2, v2, rfl, hb2, hr2⟩
  have hv : v2 = .nilIface ∧ S0n = 1 ∧ Tn = 1 := by
    have hG : Good ⟨5, 7, 9, 4, 0, 0, false, 0⟩ 0 1 1 := by unfold Good COk TimeIn MoneyIn; simp
    have hQ : stepQ ⟨5, 7, 9, 4, 0, 0, false, 0⟩ 0 1 1 = 0 := by simp [stepQ]
    rcases hr2 with ⟨_, _, _, hv, hD⟩ | ⟨_, hq, _, ⟨_, h⟩ | ⟨h, _⟩⟩
    · simp [stepD] at hD
      exact ⟨hv, hD.2.2.2.2.1, hD.2.2.2.2.2.2.2⟩
    · exact absurd (h.symm.trans hQ) hq
    · exact absurd hG h
  clear hr2
  obtain ⟨rfl, rfl, rfl⟩ := hv
  simp only [Deal.v]
  go_wp2
  go_ret
  go_tidy
  exact ⟨rfl, hb2.alloc hb2.size _⟩
end Go.Proofs.YtionmkmoddfehaaDoor
