/- moneyerref3.Stepped, a case each, and at every deal. No condition but each theorem's own. -/
import Derived.Test.YtionmkmoddfehaaDoorSwapRb
namespace Go.Proofs.YtionmkmoddfehaaDoor
open Go.RowKit Go.ChangeShapes Go.WideShapes Go.ChangeAt


set_option maxHeartbeats 4000000 in
set_option maxRecDepth 100000 in
theorem rclaim0_okt (g0 g1 e0 e1 s0 nw now : Int) (w : World) (hC : COk ⟨g0, g1, e0, e1, s0, 1, true, nw⟩ 2 now) (h : now < e1) :
    Calls Tryd.prog 5 #[.agg #[.int .i64 g0, .int .i64 g1, .int .i64 e0, .int .i64 e1, .int .i64 s0, .int .i64 1, .bool true, .int .i64 nw], .int .i64 0, .int .i64 2, .int .i64 now] w (PostStepped ⟨g0, g1, e0, e1, s0, 1, true, nw⟩ 0 2 now w) := by
  have HQ : Hid (stepQ ⟨g0, g1, e0, e1, s0, 1, true, nw⟩ 0 2 now = 0) := by show stepQ ⟨g0, g1, e0, e1, s0, 1, true, nw⟩ 0 2 now = 0; simp [stepQ, h] <;> omega
  go_enter Tryd.func5, Tryd.ntmps5
  go_wp2_with fail
  refine (fault_any _ _ _ _ _ _ _ _ _ _ _ _).mono ?_
  rintro e w1 ⟨k, rfl, ⟨_, rfl⟩ | ⟨h1, _⟩, hb⟩
  · obtain ⟨hc1, hf1⟩ := bcell hb
    have hz := hb.size
    simp only [World.size_alloc] at hz hc1 hf1
    have k1 : w.heap.size < w1.heap.size := by omega
    have k2 : w.heap.size + 1 < w1.heap.size := by omega
    have k3 : w.heap.size < w.heap.size + 1 := by omega
    have k4 : w.heap.size < w.heap.size + 1 + 1 := by omega
    have k5 : w.heap.size + 1 < w.heap.size + 1 + 1 := by omega
    have hB : Below w.heap.size w w1 := (((Below.refl _ _).alloc (Nat.le_refl _) _).alloc (by simp) _).trans (hb.mono (by simp; omega))
    clear hb
    go_wp2
    refine bodyPost_ret (v := .tuple #[Deal.v ⟨g0, g1, e0, e1, s0, 2, true, now⟩, .int .i64 0]) (by simp only [results, Tryd.results5, Deal.v]; go_simp) rfl ?_
    refine ⟨⟨g0, g1, e0, e1, s0, 2, true, now⟩, 0, rfl, ?_, .inl ⟨⟨.inl rfl, hC⟩, HQ.out, rfl, rfl⟩⟩
    iterate 11 refine Below.setCell ?_ ?_ _
    · exact hB
    all_goals simp
  · exact absurd ⟨.inl rfl, hC⟩ h1

set_option maxHeartbeats 4000000 in
set_option maxRecDepth 100000 in
theorem rclaim0_okf (g0 g1 e0 e1 s0 nw now : Int) (w : World) (hC : COk ⟨g0, g1, e0, e1, s0, 1, false, nw⟩ 2 now) (h : now < e1) :
    Calls Tryd.prog 5 #[.agg #[.int .i64 g0, .int .i64 g1, .int .i64 e0, .int .i64 e1, .int .i64 s0, .int .i64 1, .bool false, .int .i64 nw], .int .i64 0, .int .i64 2, .int .i64 now] w (PostStepped ⟨g0, g1, e0, e1, s0, 1, false, nw⟩ 0 2 now w) := by
  have HQ : Hid (stepQ ⟨g0, g1, e0, e1, s0, 1, false, nw⟩ 0 2 now = 0) := by show stepQ ⟨g0, g1, e0, e1, s0, 1, false, nw⟩ 0 2 now = 0; simp [stepQ, h] <;> omega
  go_enter Tryd.func5, Tryd.ntmps5
  go_wp2_with fail
  refine (fault_any _ _ _ _ _ _ _ _ _ _ _ _).mono ?_
  rintro e w1 ⟨k, rfl, ⟨_, rfl⟩ | ⟨h1, _⟩, hb⟩
  · obtain ⟨hc1, hf1⟩ := bcell hb
    have hz := hb.size
    simp only [World.size_alloc] at hz hc1 hf1
    have k1 : w.heap.size < w1.heap.size := by omega
    have k2 : w.heap.size + 1 < w1.heap.size := by omega
    have k3 : w.heap.size < w.heap.size + 1 := by omega
    have k4 : w.heap.size < w.heap.size + 1 + 1 := by omega
    have k5 : w.heap.size + 1 < w.heap.size + 1 + 1 := by omega
    have hB : Below w.heap.size w w1 := (((Below.refl _ _).alloc (Nat.le_refl _) _).alloc (by simp) _).trans (hb.mono (by simp; omega))
    clear hb
    go_wp2
    refine bodyPost_ret (v := .tuple #[Deal.v ⟨g0, g1, e0, e1, s0, 2, true, now⟩, .int .i64 0]) (by simp only [results, Tryd.results5, Deal.v]; go_simp) rfl ?_
    refine ⟨⟨g0, g1, e0, e1, s0, 2, true, now⟩, 0, rfl, ?_, .inl ⟨⟨.inl rfl, hC⟩, HQ.out, rfl, rfl⟩⟩
    iterate 11 refine Below.setCell ?_ ?_ _
    · exact hB
    all_goals simp
  · exact absurd ⟨.inl rfl, hC⟩ h1

set_option maxHeartbeats 4000000 in
set_option maxRecDepth 100000 in
theorem rclaim0_late (g0 g1 e0 e1 s0 nw now : Int) (kn : Bool) (w : World) (hC : COk ⟨g0, g1, e0, e1, s0, 1, kn, nw⟩ 2 now) (h : e1 ≤ now) :
    Calls Tryd.prog 5 #[.agg #[.int .i64 g0, .int .i64 g1, .int .i64 e0, .int .i64 e1, .int .i64 s0, .int .i64 1, .bool kn, .int .i64 nw], .int .i64 0, .int .i64 2, .int .i64 now] w (PostStepped ⟨g0, g1, e0, e1, s0, 1, kn, nw⟩ 0 2 now w) := by
  have HQ : Hid (stepQ ⟨g0, g1, e0, e1, s0, 1, kn, nw⟩ 0 2 now = 8) := by show stepQ ⟨g0, g1, e0, e1, s0, 1, kn, nw⟩ 0 2 now = 8; simp [stepQ, h] <;> omega
  go_enter Tryd.func5, Tryd.ntmps5
  go_wp2_with fail
  refine (fault_any _ _ _ _ _ _ _ _ _ _ _ _).mono ?_
  rintro e w1 ⟨k, rfl, ⟨_, rfl⟩ | ⟨h1, _⟩, hb⟩
  · obtain ⟨hc1, hf1⟩ := bcell hb
    have hz := hb.size
    simp only [World.size_alloc] at hz hc1 hf1
    have k1 : w.heap.size < w1.heap.size := by omega
    have k2 : w.heap.size + 1 < w1.heap.size := by omega
    have k3 : w.heap.size < w.heap.size + 1 := by omega
    have k4 : w.heap.size < w.heap.size + 1 + 1 := by omega
    have k5 : w.heap.size + 1 < w.heap.size + 1 + 1 := by omega
    have hB : Below w.heap.size w w1 := (((Below.refl _ _).alloc (Nat.le_refl _) _).alloc (by simp) _).trans (hb.mono (by simp; omega))
    clear hb
    go_wp2
    refine bodyPost_ret (v := .tuple #[Deal.v zeroD, .int .i64 8]) (by simp only [results, Tryd.results5, Deal.v, zeroD]; go_simp) rfl ?_
    refine ⟨zeroD, 8, rfl, ?_, .inr ⟨rfl, by decide, .inl ⟨⟨.inl rfl, hC⟩, HQ.out⟩⟩⟩
    iterate 8 refine Below.setCell ?_ ?_ _
    · exact hB
    all_goals simp
  · exact absurd ⟨.inl rfl, hC⟩ h1

set_option maxHeartbeats 4000000 in
set_option maxRecDepth 100000 in
theorem rclaim0_fork (g0 g1 e0 e1 s0 s1 nw now : Int) (kn : Bool) (w : World) (hC : COk ⟨g0, g1, e0, e1, s0, s1, kn, nw⟩ 2 now) (h : s1 ≠ 1) :
    Calls Tryd.prog 5 #[.agg #[.int .i64 g0, .int .i64 g1, .int .i64 e0, .int .i64 e1, .int .i64 s0, .int .i64 s1, .bool kn, .int .i64 nw], .int .i64 0, .int .i64 2, .int .i64 now] w (PostStepped ⟨g0, g1, e0, e1, s0, s1, kn, nw⟩ 0 2 now w) := by
  have HQ : Hid (stepQ ⟨g0, g1, e0, e1, s0, s1, kn, nw⟩ 0 2 now = 11) := by show stepQ ⟨g0, g1, e0, e1, s0, s1, kn, nw⟩ 0 2 now = 11; simp [stepQ, h] <;> omega
  go_enter Tryd.func5, Tryd.ntmps5
  go_wp2_with fail
  refine (fault_any _ _ _ _ _ _ _ _ _ _ _ _).mono ?_
  rintro e w1 ⟨k, rfl, ⟨_, rfl⟩ | ⟨h1, _⟩, hb⟩
  · obtain ⟨hc1, hf1⟩ := bcell hb
    have hz := hb.size
    simp only [World.size_alloc] at hz hc1 hf1
    have k1 : w.heap.size < w1.heap.size := by omega
    have k2 : w.heap.size + 1 < w1.heap.size := by omega
    have k3 : w.heap.size < w.heap.size + 1 := by omega
    have k4 : w.heap.size < w.heap.size + 1 + 1 := by omega
    have k5 : w.heap.size + 1 < w.heap.size + 1 + 1 := by omega
    have hB : Below w.heap.size w w1 := (((Below.refl _ _).alloc (Nat.le_refl _) _).alloc (by simp) _).trans (hb.mono (by simp; omega))
    have b0 : (s1 != 1) = true := by simpa using h
    clear h
    clear hb
    go_wp2
    refine bodyPost_ret (v := .tuple #[Deal.v zeroD, .int .i64 11]) (by simp only [results, Tryd.results5, Deal.v, zeroD]; go_simp) rfl ?_
    refine ⟨zeroD, 11, rfl, ?_, .inr ⟨rfl, by decide, .inl ⟨⟨.inl rfl, hC⟩, HQ.out⟩⟩⟩
    iterate 8 refine Below.setCell ?_ ?_ _
    · exact hB
    all_goals simp
  · exact absurd ⟨.inl rfl, hC⟩ h1

set_option maxHeartbeats 4000000 in
set_option maxRecDepth 100000 in
theorem rclaim1_ok (g0 g1 e0 e1 s1 nw now : Int) (w : World) (hC : COk ⟨g0, g1, e0, e1, 1, s1, true, nw⟩ 2 now) (h : now < e0) :
    Calls Tryd.prog 5 #[.agg #[.int .i64 g0, .int .i64 g1, .int .i64 e0, .int .i64 e1, .int .i64 1, .int .i64 s1, .bool true, .int .i64 nw], .int .i64 1, .int .i64 2, .int .i64 now] w (PostStepped ⟨g0, g1, e0, e1, 1, s1, true, nw⟩ 1 2 now w) := by
  have HQ : Hid (stepQ ⟨g0, g1, e0, e1, 1, s1, true, nw⟩ 1 2 now = 0) := by show stepQ ⟨g0, g1, e0, e1, 1, s1, true, nw⟩ 1 2 now = 0; simp [stepQ, h] <;> omega
  go_enter Tryd.func5, Tryd.ntmps5
  go_wp2_with fail
  refine (fault_any _ _ _ _ _ _ _ _ _ _ _ _).mono ?_
  rintro e w1 ⟨k, rfl, ⟨_, rfl⟩ | ⟨h1, _⟩, hb⟩
  · obtain ⟨hc1, hf1⟩ := bcell hb
    have hz := hb.size
    simp only [World.size_alloc] at hz hc1 hf1
    have k1 : w.heap.size < w1.heap.size := by omega
    have k2 : w.heap.size + 1 < w1.heap.size := by omega
    have k3 : w.heap.size < w.heap.size + 1 := by omega
    have k4 : w.heap.size < w.heap.size + 1 + 1 := by omega
    have k5 : w.heap.size + 1 < w.heap.size + 1 + 1 := by omega
    have hB : Below w.heap.size w w1 := (((Below.refl _ _).alloc (Nat.le_refl _) _).alloc (by simp) _).trans (hb.mono (by simp; omega))
    clear hb
    go_wp2
    refine bodyPost_ret (v := .tuple #[Deal.v ⟨g0, g1, e0, e1, 2, s1, true, now⟩, .int .i64 0]) (by simp only [results, Tryd.results5, Deal.v]; go_simp) rfl ?_
    refine ⟨⟨g0, g1, e0, e1, 2, s1, true, now⟩, 0, rfl, ?_, .inl ⟨⟨.inr rfl, hC⟩, HQ.out, rfl, rfl⟩⟩
    iterate 10 refine Below.setCell ?_ ?_ _
    · exact hB
    all_goals simp
  · exact absurd ⟨.inr rfl, hC⟩ h1

set_option maxHeartbeats 4000000 in
set_option maxRecDepth 100000 in
theorem rclaim1_late (g0 g1 e0 e1 s1 nw now : Int) (w : World) (hC : COk ⟨g0, g1, e0, e1, 1, s1, true, nw⟩ 2 now) (h : e0 ≤ now) :
    Calls Tryd.prog 5 #[.agg #[.int .i64 g0, .int .i64 g1, .int .i64 e0, .int .i64 e1, .int .i64 1, .int .i64 s1, .bool true, .int .i64 nw], .int .i64 1, .int .i64 2, .int .i64 now] w (PostStepped ⟨g0, g1, e0, e1, 1, s1, true, nw⟩ 1 2 now w) := by
  have HQ : Hid (stepQ ⟨g0, g1, e0, e1, 1, s1, true, nw⟩ 1 2 now = 8) := by show stepQ ⟨g0, g1, e0, e1, 1, s1, true, nw⟩ 1 2 now = 8; simp [stepQ, h] <;> omega
  go_enter Tryd.func5, Tryd.ntmps5
  go_wp2_with fail
  refine (fault_any _ _ _ _ _ _ _ _ _ _ _ _).mono ?_
  rintro e w1 ⟨k, rfl, ⟨_, rfl⟩ | ⟨h1, _⟩, hb⟩
  · obtain ⟨hc1, hf1⟩ := bcell hb
    have hz := hb.size
    simp only [World.size_alloc] at hz hc1 hf1
    have k1 : w.heap.size < w1.heap.size := by omega
    have k2 : w.heap.size + 1 < w1.heap.size := by omega
    have k3 : w.heap.size < w.heap.size + 1 := by omega
    have k4 : w.heap.size < w.heap.size + 1 + 1 := by omega
    have k5 : w.heap.size + 1 < w.heap.size + 1 + 1 := by omega
    have hB : Below w.heap.size w w1 := (((Below.refl _ _).alloc (Nat.le_refl _) _).alloc (by simp) _).trans (hb.mono (by simp; omega))
    clear hb
    go_wp2
    refine bodyPost_ret (v := .tuple #[Deal.v zeroD, .int .i64 8]) (by simp only [results, Tryd.results5, Deal.v, zeroD]; go_simp) rfl ?_
    refine ⟨zeroD, 8, rfl, ?_, .inr ⟨rfl, by decide, .inl ⟨⟨.inr rfl, hC⟩, HQ.out⟩⟩⟩
    iterate 8 refine Below.setCell ?_ ?_ _
    · exact hB
    all_goals simp
  · exact absurd ⟨.inr rfl, hC⟩ h1

set_option maxHeartbeats 4000000 in
set_option maxRecDepth 100000 in
theorem rclaim1_lock (g0 g1 e0 e1 s1 nw now : Int) (w : World) (hC : COk ⟨g0, g1, e0, e1, 1, s1, false, nw⟩ 2 now) :
    Calls Tryd.prog 5 #[.agg #[.int .i64 g0, .int .i64 g1, .int .i64 e0, .int .i64 e1, .int .i64 1, .int .i64 s1, .bool false, .int .i64 nw], .int .i64 1, .int .i64 2, .int .i64 now] w (PostStepped ⟨g0, g1, e0, e1, 1, s1, false, nw⟩ 1 2 now w) := by
  have HQ : Hid (stepQ ⟨g0, g1, e0, e1, 1, s1, false, nw⟩ 1 2 now = 7) := by show stepQ ⟨g0, g1, e0, e1, 1, s1, false, nw⟩ 1 2 now = 7; simp [stepQ]
  go_enter Tryd.func5, Tryd.ntmps5
  go_wp2_with fail
  refine (fault_any _ _ _ _ _ _ _ _ _ _ _ _).mono ?_
  rintro e w1 ⟨k, rfl, ⟨_, rfl⟩ | ⟨h1, _⟩, hb⟩
  · obtain ⟨hc1, hf1⟩ := bcell hb
    have hz := hb.size
    simp only [World.size_alloc] at hz hc1 hf1
    have k1 : w.heap.size < w1.heap.size := by omega
    have k2 : w.heap.size + 1 < w1.heap.size := by omega
    have k3 : w.heap.size < w.heap.size + 1 := by omega
    have k4 : w.heap.size < w.heap.size + 1 + 1 := by omega
    have k5 : w.heap.size + 1 < w.heap.size + 1 + 1 := by omega
    have hB : Below w.heap.size w w1 := (((Below.refl _ _).alloc (Nat.le_refl _) _).alloc (by simp) _).trans (hb.mono (by simp; omega))
    clear hb
    go_wp2
    refine bodyPost_ret (v := .tuple #[Deal.v zeroD, .int .i64 7]) (by simp only [results, Tryd.results5, Deal.v, zeroD]; go_simp) rfl ?_
    refine ⟨zeroD, 7, rfl, ?_, .inr ⟨rfl, by decide, .inl ⟨⟨.inr rfl, hC⟩, HQ.out⟩⟩⟩
    iterate 8 refine Below.setCell ?_ ?_ _
    · exact hB
    all_goals simp
  · exact absurd ⟨.inr rfl, hC⟩ h1

set_option maxHeartbeats 4000000 in
set_option maxRecDepth 100000 in
theorem rclaim1_fork (g0 g1 e0 e1 s0 s1 nw now : Int) (kn : Bool) (w : World) (hC : COk ⟨g0, g1, e0, e1, s0, s1, kn, nw⟩ 2 now) (h : s0 ≠ 1) :
    Calls Tryd.prog 5 #[.agg #[.int .i64 g0, .int .i64 g1, .int .i64 e0, .int .i64 e1, .int .i64 s0, .int .i64 s1, .bool kn, .int .i64 nw], .int .i64 1, .int .i64 2, .int .i64 now] w (PostStepped ⟨g0, g1, e0, e1, s0, s1, kn, nw⟩ 1 2 now w) := by
  have HQ : Hid (stepQ ⟨g0, g1, e0, e1, s0, s1, kn, nw⟩ 1 2 now = 11) := by show stepQ ⟨g0, g1, e0, e1, s0, s1, kn, nw⟩ 1 2 now = 11; simp [stepQ, h] <;> omega
  go_enter Tryd.func5, Tryd.ntmps5
  go_wp2_with fail
  refine (fault_any _ _ _ _ _ _ _ _ _ _ _ _).mono ?_
  rintro e w1 ⟨k, rfl, ⟨_, rfl⟩ | ⟨h1, _⟩, hb⟩
  · obtain ⟨hc1, hf1⟩ := bcell hb
    have hz := hb.size
    simp only [World.size_alloc] at hz hc1 hf1
    have k1 : w.heap.size < w1.heap.size := by omega
    have k2 : w.heap.size + 1 < w1.heap.size := by omega
    have k3 : w.heap.size < w.heap.size + 1 := by omega
    have k4 : w.heap.size < w.heap.size + 1 + 1 := by omega
    have k5 : w.heap.size + 1 < w.heap.size + 1 + 1 := by omega
    have hB : Below w.heap.size w w1 := (((Below.refl _ _).alloc (Nat.le_refl _) _).alloc (by simp) _).trans (hb.mono (by simp; omega))
    have b0 : (s0 != 1) = true := by simpa using h
    clear h
    clear hb
    go_wp2
    refine bodyPost_ret (v := .tuple #[Deal.v zeroD, .int .i64 11]) (by simp only [results, Tryd.results5, Deal.v, zeroD]; go_simp) rfl ?_
    refine ⟨zeroD, 11, rfl, ?_, .inr ⟨rfl, by decide, .inl ⟨⟨.inr rfl, hC⟩, HQ.out⟩⟩⟩
    iterate 8 refine Below.setCell ?_ ?_ _
    · exact hB
    all_goals simp
  · exact absurd ⟨.inr rfl, hC⟩ h1
end Go.Proofs.YtionmkmoddfehaaDoor
