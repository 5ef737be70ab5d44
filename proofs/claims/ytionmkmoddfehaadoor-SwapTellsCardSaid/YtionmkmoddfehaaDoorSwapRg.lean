/- The walks of swap.Gain and of the dealt witness. No condition. -/
import Derived.Test.YtionmkmoddfehaaDoorSwapHd
namespace Go.Proofs.YtionmkmoddfehaaDoor
open Go.RowKit Go.ChangeShapes Go.WideShapes Go.ChangeAt

set_option maxHeartbeats 4000000 in
theorem rgain_0_22 (g0 g1 e0 e1 nw : Int) (kn : Bool) (w : World) :
    Calls Tryd.prog 9 #[.agg #[.int .i64 g0, .int .i64 g1, .int .i64 e0, .int .i64 e1, .int .i64 2, .int .i64 2, .bool kn, .int .i64 nw], .int .i64 0] w (PostGain (gainOf ⟨g0, g1, e0, e1, 2, 2, kn, nw⟩ 0) w) := by
  have i0 := Tryd.idx0
  have i1 := Tryd.idx1
  have hg : Hid (gainOf ⟨g0, g1, e0, e1, 2, 2, kn, nw⟩ 0 = gainOf ⟨g0, g1, e0, e1, 2, 2, kn, nw⟩ 0) := aside rfl
  have hk : gainOf ⟨g0, g1, e0, e1, 2, 2, kn, nw⟩ 0 = wrap64 (wrap64 (-g0) + g1) := by simp [gainOf]
  rw [hk]
  clear hk hg
  go_enter Tryd.func9, Tryd.ntmps9
  go_wp2
  all_goals try (refine wp_loop_rounds 3 ?_; rw [rounds_succ]; go_wp2)
  all_goals try (rw [rounds_succ]; go_wp2)
  all_goals try (rw [rounds_succ]; go_wp2)
  all_goals go_ret
  all_goals go_tidy
  all_goals exact ⟨by first | rfl | (simp; done) | (show Ending.returned (.int .i64 _) = _; congr 2; unfold wrap64; omega) | (simp; unfold wrap64; omega), (Below.refl _ _).alloc (Nat.le_refl _) _⟩

set_option maxHeartbeats 4000000 in
theorem rgain_0_2x (g0 g1 e0 e1 nw s1 : Int) (kn : Bool) (w : World) (hs1 : s1 ≠ 2) :
    Calls Tryd.prog 9 #[.agg #[.int .i64 g0, .int .i64 g1, .int .i64 e0, .int .i64 e1, .int .i64 2, .int .i64 s1, .bool kn, .int .i64 nw], .int .i64 0] w (PostGain (gainOf ⟨g0, g1, e0, e1, 2, s1, kn, nw⟩ 0) w) := by
  have i0 := Tryd.idx0
  have i1 := Tryd.idx1
  have b1 : (s1 == 2) = false := beq_eq_false_iff_ne.2 hs1
  have hg : Hid (gainOf ⟨g0, g1, e0, e1, 2, s1, kn, nw⟩ 0 = gainOf ⟨g0, g1, e0, e1, 2, s1, kn, nw⟩ 0) := aside rfl
  have hk : gainOf ⟨g0, g1, e0, e1, 2, s1, kn, nw⟩ 0 = wrap64 (-g0) := by simp [gainOf, hs1]
  rw [hk]
  clear hk hg hs1
  go_enter Tryd.func9, Tryd.ntmps9
  go_wp2
  all_goals try (refine wp_loop_rounds 3 ?_; rw [rounds_succ]; go_wp2)
  all_goals try (rw [rounds_succ]; go_wp2)
  all_goals try (rw [rounds_succ]; go_wp2)
  all_goals go_ret
  all_goals go_tidy
  all_goals exact ⟨by first | rfl | (simp; done) | (show Ending.returned (.int .i64 _) = _; congr 2; unfold wrap64; omega) | (simp; unfold wrap64; omega), (Below.refl _ _).alloc (Nat.le_refl _) _⟩

set_option maxHeartbeats 4000000 in
theorem rgain_0_x2 (g0 g1 e0 e1 nw s0 : Int) (kn : Bool) (w : World) (hs0 : s0 ≠ 2) :
    Calls Tryd.prog 9 #[.agg #[.int .i64 g0, .int .i64 g1, .int .i64 e0, .int .i64 e1, .int .i64 s0, .int .i64 2, .bool kn, .int .i64 nw], .int .i64 0] w (PostGain (gainOf ⟨g0, g1, e0, e1, s0, 2, kn, nw⟩ 0) w) := by
  have i0 := Tryd.idx0
  have i1 := Tryd.idx1
  have b0 : (s0 == 2) = false := beq_eq_false_iff_ne.2 hs0
  have hg : Hid (gainOf ⟨g0, g1, e0, e1, s0, 2, kn, nw⟩ 0 = gainOf ⟨g0, g1, e0, e1, s0, 2, kn, nw⟩ 0) := aside rfl
  have hk : gainOf ⟨g0, g1, e0, e1, s0, 2, kn, nw⟩ 0 = wrap64 g1 := by simp [gainOf, hs0]
  rw [hk]
  clear hk hg hs0
  go_enter Tryd.func9, Tryd.ntmps9
  go_wp2
  all_goals try (refine wp_loop_rounds 3 ?_; rw [rounds_succ]; go_wp2)
  all_goals try (rw [rounds_succ]; go_wp2)
  all_goals try (rw [rounds_succ]; go_wp2)
  all_goals go_ret
  all_goals go_tidy
  all_goals exact ⟨by first | rfl | (simp; done) | (show Ending.returned (.int .i64 _) = _; congr 2; unfold wrap64; omega) | (simp; unfold wrap64; omega), (Below.refl _ _).alloc (Nat.le_refl _) _⟩

set_option maxHeartbeats 4000000 in
theorem rgain_0_xx (g0 g1 e0 e1 nw s0 s1 : Int) (kn : Bool) (w : World) (hs0 : s0 ≠ 2) (hs1 : s1 ≠ 2) :
    Calls Tryd.prog 9 #[.agg #[.int .i64 g0, .int .i64 g1, .int .i64 e0, .int .i64 e1, .int .i64 s0, .int .i64 s1, .bool kn, .int .i64 nw], .int .i64 0] w (PostGain (gainOf ⟨g0, g1, e0, e1, s0, s1, kn, nw⟩ 0) w) := by
  have i0 := Tryd.idx0
  have i1 := Tryd.idx1
  have b0 : (s0 == 2) = false := beq_eq_false_iff_ne.2 hs0
  have b1 : (s1 == 2) = false := beq_eq_false_iff_ne.2 hs1
  have hg : Hid (gainOf ⟨g0, g1, e0, e1, s0, s1, kn, nw⟩ 0 = gainOf ⟨g0, g1, e0, e1, s0, s1, kn, nw⟩ 0) := aside rfl
  have hk : gainOf ⟨g0, g1, e0, e1, s0, s1, kn, nw⟩ 0 = 0 := by simp [gainOf, hs0, hs1]
  rw [hk]
  clear hk hg hs0 hs1
  go_enter Tryd.func9, Tryd.ntmps9
  go_wp2
  all_goals try (refine wp_loop_rounds 3 ?_; rw [rounds_succ]; go_wp2)
  all_goals try (rw [rounds_succ]; go_wp2)
  all_goals try (rw [rounds_succ]; go_wp2)
  all_goals go_ret
  all_goals go_tidy
  all_goals exact ⟨by first | rfl | (simp; done) | (show Ending.returned (.int .i64 _) = _; congr 2; unfold wrap64; omega) | (simp; unfold wrap64; omega), (Below.refl _ _).alloc (Nat.le_refl _) _⟩

set_option maxHeartbeats 4000000 in
theorem rgain_1_22 (g0 g1 e0 e1 nw : Int) (kn : Bool) (w : World) :
    Calls Tryd.prog 9 #[.agg #[.int .i64 g0, .int .i64 g1, .int .i64 e0, .int .i64 e1, .int .i64 2, .int .i64 2, .bool kn, .int .i64 nw], .int .i64 1] w (PostGain (gainOf ⟨g0, g1, e0, e1, 2, 2, kn, nw⟩ 1) w) := by
  have i0 := Tryd.idx0
  have i1 := Tryd.idx1
  have hg : Hid (gainOf ⟨g0, g1, e0, e1, 2, 2, kn, nw⟩ 1 = gainOf ⟨g0, g1, e0, e1, 2, 2, kn, nw⟩ 1) := aside rfl
  have hk : gainOf ⟨g0, g1, e0, e1, 2, 2, kn, nw⟩ 1 = wrap64 (wrap64 g0 - g1) := by simp [gainOf]
  rw [hk]
  clear hk hg
  go_enter Tryd.func9, Tryd.ntmps9
  go_wp2
  all_goals try (refine wp_loop_rounds 3 ?_; rw [rounds_succ]; go_wp2)
  all_goals try (rw [rounds_succ]; go_wp2)
  all_goals try (rw [rounds_succ]; go_wp2)
  all_goals go_ret
  all_goals go_tidy
  all_goals exact ⟨by first | rfl | (simp; done) | (show Ending.returned (.int .i64 _) = _; congr 2; unfold wrap64; omega) | (simp; unfold wrap64; omega), (Below.refl _ _).alloc (Nat.le_refl _) _⟩

set_option maxHeartbeats 4000000 in
theorem rgain_1_2x (g0 g1 e0 e1 nw s1 : Int) (kn : Bool) (w : World) (hs1 : s1 ≠ 2) :
    Calls Tryd.prog 9 #[.agg #[.int .i64 g0, .int .i64 g1, .int .i64 e0, .int .i64 e1, .int .i64 2, .int .i64 s1, .bool kn, .int .i64 nw], .int .i64 1] w (PostGain (gainOf ⟨g0, g1, e0, e1, 2, s1, kn, nw⟩ 1) w) := by
  have i0 := Tryd.idx0
  have i1 := Tryd.idx1
  have b1 : (s1 == 2) = false := beq_eq_false_iff_ne.2 hs1
  have hg : Hid (gainOf ⟨g0, g1, e0, e1, 2, s1, kn, nw⟩ 1 = gainOf ⟨g0, g1, e0, e1, 2, s1, kn, nw⟩ 1) := aside rfl
  have hk : gainOf ⟨g0, g1, e0, e1, 2, s1, kn, nw⟩ 1 = wrap64 g0 := by simp [gainOf, hs1]
  rw [hk]
  clear hk hg hs1
  go_enter Tryd.func9, Tryd.ntmps9
  go_wp2
  all_goals try (refine wp_loop_rounds 3 ?_; rw [rounds_succ]; go_wp2)
  all_goals try (rw [rounds_succ]; go_wp2)
  all_goals try (rw [rounds_succ]; go_wp2)
  all_goals go_ret
  all_goals go_tidy
  all_goals exact ⟨by first | rfl | (simp; done) | (show Ending.returned (.int .i64 _) = _; congr 2; unfold wrap64; omega) | (simp; unfold wrap64; omega), (Below.refl _ _).alloc (Nat.le_refl _) _⟩

set_option maxHeartbeats 4000000 in
theorem rgain_1_x2 (g0 g1 e0 e1 nw s0 : Int) (kn : Bool) (w : World) (hs0 : s0 ≠ 2) :
    Calls Tryd.prog 9 #[.agg #[.int .i64 g0, .int .i64 g1, .int .i64 e0, .int .i64 e1, .int .i64 s0, .int .i64 2, .bool kn, .int .i64 nw], .int .i64 1] w (PostGain (gainOf ⟨g0, g1, e0, e1, s0, 2, kn, nw⟩ 1) w) := by
  have i0 := Tryd.idx0
  have i1 := Tryd.idx1
  have b0 : (s0 == 2) = false := beq_eq_false_iff_ne.2 hs0
  have hg : Hid (gainOf ⟨g0, g1, e0, e1, s0, 2, kn, nw⟩ 1 = gainOf ⟨g0, g1, e0, e1, s0, 2, kn, nw⟩ 1) := aside rfl
  have hk : gainOf ⟨g0, g1, e0, e1, s0, 2, kn, nw⟩ 1 = wrap64 (-g1) := by simp [gainOf, hs0]
  rw [hk]
  clear hk hg hs0
  go_enter Tryd.func9, Tryd.ntmps9
  go_wp2
  all_goals try (refine wp_loop_rounds 3 ?_; rw [rounds_succ]; go_wp2)
  all_goals try (rw [rounds_succ]; go_wp2)
  all_goals try (rw [rounds_succ]; go_wp2)
  all_goals go_ret
  all_goals go_tidy
  all_goals exact ⟨by first | rfl | (simp; done) | (show Ending.returned (.int .i64 _) = _; congr 2; unfold wrap64; omega) | (simp; unfold wrap64; omega), (Below.refl _ _).alloc (Nat.le_refl _) _⟩

set_option maxHeartbeats 4000000 in
theorem rgain_1_xx (g0 g1 e0 e1 nw s0 s1 : Int) (kn : Bool) (w : World) (hs0 : s0 ≠ 2) (hs1 : s1 ≠ 2) :
    Calls Tryd.prog 9 #[.agg #[.int .i64 g0, .int .i64 g1, .int .i64 e0, .int .i64 e1, .int .i64 s0, .int .i64 s1, .bool kn, .int .i64 nw], .int .i64 1] w (PostGain (gainOf ⟨g0, g1, e0, e1, s0, s1, kn, nw⟩ 1) w) := by
  have i0 := Tryd.idx0
  have i1 := Tryd.idx1
  have b0 : (s0 == 2) = false := beq_eq_false_iff_ne.2 hs0
  have b1 : (s1 == 2) = false := beq_eq_false_iff_ne.2 hs1
  have hg : Hid (gainOf ⟨g0, g1, e0, e1, s0, s1, kn, nw⟩ 1 = gainOf ⟨g0, g1, e0, e1, s0, s1, kn, nw⟩ 1) := aside rfl
  have hk : gainOf ⟨g0, g1, e0, e1, s0, s1, kn, nw⟩ 1 = 0 := by simp [gainOf, hs0, hs1]
  rw [hk]
  clear hk hg hs0 hs1
  go_enter Tryd.func9, Tryd.ntmps9
  go_wp2
  all_goals try (refine wp_loop_rounds 3 ?_; rw [rounds_succ]; go_wp2)
  all_goals try (rw [rounds_succ]; go_wp2)
  all_goals try (rw [rounds_succ]; go_wp2)
  all_goals go_ret
  all_goals go_tidy
  all_goals exact ⟨by first | rfl | (simp; done) | (show Ending.returned (.int .i64 _) = _; congr 2; unfold wrap64; omega) | (simp; unfold wrap64; omega), (Below.refl _ _).alloc (Nat.le_refl _) _⟩

set_option maxHeartbeats 4000000 in
theorem rgain_w_22 (g0 g1 e0 e1 nw who : Int) (kn : Bool) (w : World) (h0 : who ≠ 0) (h1 : who ≠ 1) :
    Calls Tryd.prog 9 #[.agg #[.int .i64 g0, .int .i64 g1, .int .i64 e0, .int .i64 e1, .int .i64 2, .int .i64 2, .bool kn, .int .i64 nw], .int .i64 who] w (PostGain (gainOf ⟨g0, g1, e0, e1, 2, 2, kn, nw⟩ who) w) := by
  have i0 := Tryd.idx0
  have i1 := Tryd.idx1
  have c0 : (who == 0) = false := beq_eq_false_iff_ne.2 h0
  have c1 : (who == 1) = false := beq_eq_false_iff_ne.2 h1
  have hg : Hid (gainOf ⟨g0, g1, e0, e1, 2, 2, kn, nw⟩ who = gainOf ⟨g0, g1, e0, e1, 2, 2, kn, nw⟩ who) := aside rfl
  have hk : gainOf ⟨g0, g1, e0, e1, 2, 2, kn, nw⟩ who = 0 := by simp [gainOf, h0, h1]
  rw [hk]
  clear hk hg h0 h1
  go_enter Tryd.func9, Tryd.ntmps9
  go_wp2
  all_goals try (refine wp_loop_rounds 3 ?_; rw [rounds_succ]; go_wp2)
  all_goals try (rw [rounds_succ]; go_wp2)
  all_goals try (rw [rounds_succ]; go_wp2)
  all_goals go_ret
  all_goals go_tidy
  all_goals exact ⟨by first | rfl | (simp; done) | (show Ending.returned (.int .i64 _) = _; congr 2; unfold wrap64; omega) | (simp; unfold wrap64; omega), (Below.refl _ _).alloc (Nat.le_refl _) _⟩

set_option maxHeartbeats 4000000 in
theorem rgain_w_2x (g0 g1 e0 e1 nw s1 who : Int) (kn : Bool) (w : World) (hs1 : s1 ≠ 2) (h0 : who ≠ 0) (h1 : who ≠ 1) :
    Calls Tryd.prog 9 #[.agg #[.int .i64 g0, .int .i64 g1, .int .i64 e0, .int .i64 e1, .int .i64 2, .int .i64 s1, .bool kn, .int .i64 nw], .int .i64 who] w (PostGain (gainOf ⟨g0, g1, e0, e1, 2, s1, kn, nw⟩ who) w) := by
  have i0 := Tryd.idx0
  have i1 := Tryd.idx1
  have b1 : (s1 == 2) = false := beq_eq_false_iff_ne.2 hs1
  have c0 : (who == 0) = false := beq_eq_false_iff_ne.2 h0
  have c1 : (who == 1) = false := beq_eq_false_iff_ne.2 h1
  have hg : Hid (gainOf ⟨g0, g1, e0, e1, 2, s1, kn, nw⟩ who = gainOf ⟨g0, g1, e0, e1, 2, s1, kn, nw⟩ who) := aside rfl
  have hk : gainOf ⟨g0, g1, e0, e1, 2, s1, kn, nw⟩ who = 0 := by simp [gainOf, hs1, h0, h1]
  rw [hk]
  clear hk hg hs1 h0 h1
  go_enter Tryd.func9, Tryd.ntmps9
  go_wp2
  all_goals try (refine wp_loop_rounds 3 ?_; rw [rounds_succ]; go_wp2)
  all_goals try (rw [rounds_succ]; go_wp2)
  all_goals try (rw [rounds_succ]; go_wp2)
  all_goals go_ret
  all_goals go_tidy
  all_goals exact ⟨by first | rfl | (simp; done) | (show Ending.returned (.int .i64 _) = _; congr 2; unfold wrap64; omega) | (simp; unfold wrap64; omega), (Below.refl _ _).alloc (Nat.le_refl _) _⟩

set_option maxHeartbeats 4000000 in
theorem rgain_w_x2 (g0 g1 e0 e1 nw s0 who : Int) (kn : Bool) (w : World) (hs0 : s0 ≠ 2) (h0 : who ≠ 0) (h1 : who ≠ 1) :
    Calls Tryd.prog 9 #[.agg #[.int .i64 g0, .int .i64 g1, .int .i64 e0, .int .i64 e1, .int .i64 s0, .int .i64 2, .bool kn, .int .i64 nw], .int .i64 who] w (PostGain (gainOf ⟨g0, g1, e0, e1, s0, 2, kn, nw⟩ who) w) := by
  have i0 := Tryd.idx0
  have i1 := Tryd.idx1
  have b0 : (s0 == 2) = false := beq_eq_false_iff_ne.2 hs0
  have c0 : (who == 0) = false := beq_eq_false_iff_ne.2 h0
  have c1 : (who == 1) = false := beq_eq_false_iff_ne.2 h1
  have hg : Hid (gainOf ⟨g0, g1, e0, e1, s0, 2, kn, nw⟩ who = gainOf ⟨g0, g1, e0, e1, s0, 2, kn, nw⟩ who) := aside rfl
  have hk : gainOf ⟨g0, g1, e0, e1, s0, 2, kn, nw⟩ who = 0 := by simp [gainOf, hs0, h0, h1]
  rw [hk]
  clear hk hg hs0 h0 h1
  go_enter Tryd.func9, Tryd.ntmps9
  go_wp2
  all_goals try (refine wp_loop_rounds 3 ?_; rw [rounds_succ]; go_wp2)
  all_goals try (rw [rounds_succ]; go_wp2)
  all_goals try (rw [rounds_succ]; go_wp2)
  all_goals go_ret
  all_goals go_tidy
  all_goals exact ⟨by first | rfl | (simp; done) | (show Ending.returned (.int .i64 _) = _; congr 2; unfold wrap64; omega) | (simp; unfold wrap64; omega), (Below.refl _ _).alloc (Nat.le_refl _) _⟩

set_option maxHeartbeats 4000000 in
theorem rgain_w_xx (g0 g1 e0 e1 nw s0 s1 who : Int) (kn : Bool) (w : World) (hs0 : s0 ≠ 2) (hs1 : s1 ≠ 2) (h0 : who ≠ 0) (h1 : who ≠ 1) :
    Calls Tryd.prog 9 #[.agg #[.int .i64 g0, .int .i64 g1, .int .i64 e0, .int .i64 e1, .int .i64 s0, .int .i64 s1, .bool kn, .int .i64 nw], .int .i64 who] w (PostGain (gainOf ⟨g0, g1, e0, e1, s0, s1, kn, nw⟩ who) w) := by
  have i0 := Tryd.idx0
  have i1 := Tryd.idx1
  have b0 : (s0 == 2) = false := beq_eq_false_iff_ne.2 hs0
  have b1 : (s1 == 2) = false := beq_eq_false_iff_ne.2 hs1
  have c0 : (who == 0) = false := beq_eq_false_iff_ne.2 h0
  have c1 : (who == 1) = false := beq_eq_false_iff_ne.2 h1
  have hg : Hid (gainOf ⟨g0, g1, e0, e1, s0, s1, kn, nw⟩ who = gainOf ⟨g0, g1, e0, e1, s0, s1, kn, nw⟩ who) := aside rfl
  have hk : gainOf ⟨g0, g1, e0, e1, s0, s1, kn, nw⟩ who = 0 := by simp [gainOf, hs0, hs1, h0, h1]
  rw [hk]
  clear hk hg hs0 hs1 h0 h1
  go_enter Tryd.func9, Tryd.ntmps9
  go_wp2
  all_goals try (refine wp_loop_rounds 3 ?_; rw [rounds_succ]; go_wp2)
  all_goals try (rw [rounds_succ]; go_wp2)
  all_goals try (rw [rounds_succ]; go_wp2)
  all_goals go_ret
  all_goals go_tidy
  all_goals exact ⟨by first | rfl | (simp; done) | (show Ending.returned (.int .i64 _) = _; congr 2; unfold wrap64; omega) | (simp; unfold wrap64; omega), (Below.refl _ _).alloc (Nat.le_refl _) _⟩

/-- swap.Gain, at every deal. -/
theorem rgain_any (d : Deal) (who : Int) (w : World) : Calls Tryd.prog 9 #[d.v, .int .i64 who] w (PostGain (gainOf d who) w) := by
  obtain ⟨g0, g1, e0, e1, s0, s1, kn, nw⟩ := d
  by_cases hs0 : s0 = 2
  · subst hs0
    by_cases hs1 : s1 = 2
    · subst hs1
      by_cases h0 : who = 0
      · subst h0; exact rgain_0_22 _ _ _ _ _ _ w
      · by_cases h1 : who = 1
        · subst h1; exact rgain_1_22 _ _ _ _ _ _ w
        · exact rgain_w_22 _ _ _ _ _ _ _ w h0 h1
    · by_cases h0 : who = 0
      · subst h0; exact rgain_0_2x _ _ _ _ _ _ _ w hs1
      · by_cases h1 : who = 1
        · subst h1; exact rgain_1_2x _ _ _ _ _ _ _ w hs1
        · exact rgain_w_2x _ _ _ _ _ _ _ _ w hs1 h0 h1
  · by_cases hs1 : s1 = 2
    · subst hs1
      by_cases h0 : who = 0
      · subst h0; exact rgain_0_x2 _ _ _ _ _ _ _ w hs0
      · by_cases h1 : who = 1
        · subst h1; exact rgain_1_x2 _ _ _ _ _ _ _ w hs0
        · exact rgain_w_x2 _ _ _ _ _ _ _ _ w hs0 h0 h1
    · by_cases h0 : who = 0
      · subst h0; exact rgain_0_xx _ _ _ _ _ _ _ _ w hs0 hs1
      · by_cases h1 : who = 1
        · subst h1; exact rgain_1_xx _ _ _ _ _ _ _ _ w hs0 hs1
        · exact rgain_w_xx _ _ _ _ _ _ _ _ _ w hs0 hs1 h0 h1

end Go.Proofs.YtionmkmoddfehaaDoor
