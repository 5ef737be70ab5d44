/- The walks of swap.Step, a case each. Condition: the deal and the act are right (each theorem's 'hC'). -/
import Derived.Test.YtionmkmoddfehaaDoorSwap1
import Derived.Test.YtionmkmoddfehaaDoorSwap2
import Derived.Test.YtionmkmoddfehaaDoorSwap3
namespace Go.Proofs.YtionmkmoddfehaaDoor
open Go.RowKit Go.ChangeShapes Go.WideShapes Go.ChangeAt

set_option maxHeartbeats 4000000 in
set_option maxRecDepth 100000 in
theorem bad_0 (g0 g1 e0 e1 s0 s1 nw act now : Int) (kn : Bool) (w : World) (hC : ¬ COk ⟨g0, g1, e0, e1, s0, s1, kn, nw⟩ act now) :
    Calls Tryd.prog 6 #[.agg #[.int .i64 g0, .int .i64 g1, .int .i64 e0, .int .i64 e1, .int .i64 s0, .int .i64 s1, .bool kn, .int .i64 nw], .int .i64 0, .int .i64 act, .int .i64 now] w (PostStep ⟨g0, g1, e0, e1, s0, s1, kn, nw⟩ 0 act now w) := by
  go_enter Tryd.func6, Tryd.ntmps6
  go_wp2_with fail
  refine (check_0 _ _ _ _ _ _ _ _ _ _ _).mono ?_
  rintro e w1 ⟨v, rfl, ⟨h1, _⟩ | ⟨_, rfl⟩, hb⟩
  · exact absurd h1 (by first | exact hC | exact id)
  · obtain ⟨hc1, hf1⟩ := bcell hb
    have hz := hb.size
    simp only [World.size_alloc] at hz hc1 hf1
    have k1 : w.heap.size < w1.heap.size := by omega
    have k2 : w.heap.size + 1 < w1.heap.size := by omega
    have k3 : w.heap.size < w.heap.size + 1 := by omega
    have k4 : w.heap.size < w.heap.size + 1 + 1 := by omega
    have k5 : w.heap.size + 1 < w.heap.size + 1 + 1 := by omega
    have hB : Below w.heap.size w w1 := (((Below.refl _ _).alloc (Nat.le_refl _) _).alloc (by simp) _).trans (hb.mono (by simp; omega))
    clear hb
    go_wp2
    refine bodyPost_ret (v := .tuple #[Deal.v zeroD, .iface 27 (.int .i64 2)]) (by simp only [results, Tryd.results6, Deal.v, zeroD]; go_simp) rfl ?_
    refine ⟨zeroD, 2, _, rfl, ?_, .inr ⟨rfl, by decide, rfl, .inr ⟨?_, rfl⟩⟩⟩
    · iterate 8 refine Below.setCell ?_ ?_ _
      · exact hB
      all_goals simp
    · exact fun h => hC h.2

set_option maxHeartbeats 4000000 in
set_option maxRecDepth 100000 in
theorem bad_1 (g0 g1 e0 e1 s0 s1 nw act now : Int) (kn : Bool) (w : World) (hC : ¬ COk ⟨g0, g1, e0, e1, s0, s1, kn, nw⟩ act now) :
    Calls Tryd.prog 6 #[.agg #[.int .i64 g0, .int .i64 g1, .int .i64 e0, .int .i64 e1, .int .i64 s0, .int .i64 s1, .bool kn, .int .i64 nw], .int .i64 1, .int .i64 act, .int .i64 now] w (PostStep ⟨g0, g1, e0, e1, s0, s1, kn, nw⟩ 1 act now w) := by
  go_enter Tryd.func6, Tryd.ntmps6
  go_wp2_with fail
  refine (check_1 _ _ _ _ _ _ _ _ _ _ _).mono ?_
  rintro e w1 ⟨v, rfl, ⟨h1, _⟩ | ⟨_, rfl⟩, hb⟩
  · exact absurd h1 (by first | exact hC | exact id)
  · obtain ⟨hc1, hf1⟩ := bcell hb
    have hz := hb.size
    simp only [World.size_alloc] at hz hc1 hf1
    have k1 : w.heap.size < w1.heap.size := by omega
    have k2 : w.heap.size + 1 < w1.heap.size := by omega
    have k3 : w.heap.size < w.heap.size + 1 := by omega
    have k4 : w.heap.size < w.heap.size + 1 + 1 := by omega
    have k5 : w.heap.size + 1 < w.heap.size + 1 + 1 := by omega
    have hB : Below w.heap.size w w1 := (((Below.refl _ _).alloc (Nat.le_refl _) _).alloc (by simp) _).trans (hb.mono (by simp; omega))
    clear hb
    go_wp2
    refine bodyPost_ret (v := .tuple #[Deal.v zeroD, .iface 27 (.int .i64 2)]) (by simp only [results, Tryd.results6, Deal.v, zeroD]; go_simp) rfl ?_
    refine ⟨zeroD, 2, _, rfl, ?_, .inr ⟨rfl, by decide, rfl, .inr ⟨?_, rfl⟩⟩⟩
    · iterate 8 refine Below.setCell ?_ ?_ _
      · exact hB
      all_goals simp
    · exact fun h => hC h.2

set_option maxHeartbeats 4000000 in
set_option maxRecDepth 100000 in
theorem bad_other (g0 g1 e0 e1 s0 s1 nw who act now : Int) (kn : Bool) (w : World) (h0 : who ≠ 0) (h1 : who ≠ 1) :
    Calls Tryd.prog 6 #[.agg #[.int .i64 g0, .int .i64 g1, .int .i64 e0, .int .i64 e1, .int .i64 s0, .int .i64 s1, .bool kn, .int .i64 nw], .int .i64 who, .int .i64 act, .int .i64 now] w (PostStep ⟨g0, g1, e0, e1, s0, s1, kn, nw⟩ who act now w) := by
  go_enter Tryd.func6, Tryd.ntmps6
  go_wp2_with fail
  refine (check_other _ _ _ _ _ _ _ _ _ _ _ _ h0 h1).mono ?_
  rintro e w1 ⟨v, rfl, ⟨h1, _⟩ | ⟨_, rfl⟩, hb⟩
  · exact absurd h1 (by first | exact hC | exact id)
  · obtain ⟨hc1, hf1⟩ := bcell hb
    have hz := hb.size
    simp only [World.size_alloc] at hz hc1 hf1
    have k1 : w.heap.size < w1.heap.size := by omega
    have k2 : w.heap.size + 1 < w1.heap.size := by omega
    have k3 : w.heap.size < w.heap.size + 1 := by omega
    have k4 : w.heap.size < w.heap.size + 1 + 1 := by omega
    have k5 : w.heap.size + 1 < w.heap.size + 1 + 1 := by omega
    have hB : Below w.heap.size w w1 := (((Below.refl _ _).alloc (Nat.le_refl _) _).alloc (by simp) _).trans (hb.mono (by simp; omega))
    clear hb
    go_wp2
    refine bodyPost_ret (v := .tuple #[Deal.v zeroD, .iface 27 (.int .i64 2)]) (by simp only [results, Tryd.results6, Deal.v, zeroD]; go_simp) rfl ?_
    refine ⟨zeroD, 2, _, rfl, ?_, .inr ⟨rfl, by decide, rfl, .inr ⟨?_, rfl⟩⟩⟩
    · iterate 8 refine Below.setCell ?_ ?_ _
      · exact hB
      all_goals simp
    · exact fun h => h.1.elim h0 h1

/-- swap.Step, at every deal and every act. -/
theorem step_any (d : Deal) (who act now : Int) (w : World) : Calls Tryd.prog 6 #[d.v, .int .i64 who, .int .i64 act, .int .i64 now] w (PostStep d who act now w) := by
  obtain ⟨g0, g1, e0, e1, s0, s1, kn, nw⟩ := d
  by_cases h0 : who = 0
  · subst h0
    by_cases hC : COk ⟨g0, g1, e0, e1, s0, s1, kn, nw⟩ act now
    · by_cases a1 : act = 1
      · subst a1
        by_cases hs : s0 = 0
        · subst hs
          by_cases h : now < e0
          · exact lock0_ok _ _ _ _ _ _ _ _ w hC h
          · exact lock0_late _ _ _ _ _ _ _ _ w hC (Int.not_lt.1 h)
        · exact lock0_fork _ _ _ _ _ _ _ _ _ w hC hs
      · by_cases a2 : act = 2
        · subst a2
          by_cases hs : s1 = 1
          · subst hs
            by_cases h : now < e1
            · cases kn
              · exact claim0_okf _ _ _ _ _ _ _ w hC h
              · exact claim0_okt _ _ _ _ _ _ _ w hC h
            · exact claim0_late _ _ _ _ _ _ _ _ w hC (Int.not_lt.1 h)
          · exact claim0_fork _ _ _ _ _ _ _ _ _ w hC hs
        · obtain rfl : act = 3 := by have := hC.1; have := hC.2.1; omega
          by_cases hs : s0 = 1
          · subst hs
            by_cases h : now < e0
            · exact take0_early _ _ _ _ _ _ _ _ w hC h
            · exact take0_ok _ _ _ _ _ _ _ _ w hC (Int.not_lt.1 h)
          · exact take0_fork _ _ _ _ _ _ _ _ _ w hC hs
    · exact bad_0 _ _ _ _ _ _ _ _ _ _ w hC
  · by_cases h1 : who = 1
    · subst h1
      by_cases hC : COk ⟨g0, g1, e0, e1, s0, s1, kn, nw⟩ act now
      · by_cases a1 : act = 1
        · subst a1
          by_cases hs : s1 = 0
          · subst hs
            by_cases hs2 : s0 = 1
            · subst hs2
              by_cases h : now < e1
              · exact lock1_ok _ _ _ _ _ _ _ w hC h
              · exact lock1_late _ _ _ _ _ _ _ w hC (Int.not_lt.1 h)
            · exact lock1_forkb _ _ _ _ _ _ _ _ w hC hs2
          · exact lock1_fork _ _ _ _ _ _ _ _ _ w hC hs
        · by_cases a2 : act = 2
          · subst a2
            by_cases hs : s0 = 1
            · subst hs
              cases kn
              · exact claim1_lock _ _ _ _ _ _ _ w hC
              · by_cases h : now < e0
                · exact claim1_ok _ _ _ _ _ _ _ w hC h
                · exact claim1_late _ _ _ _ _ _ _ w hC (Int.not_lt.1 h)
            · exact claim1_fork _ _ _ _ _ _ _ _ _ w hC hs
          · obtain rfl : act = 3 := by have := hC.1; have := hC.2.1; omega
            by_cases hs : s1 = 1
            · subst hs
              by_cases h : now < e1
              · exact take1_early _ _ _ _ _ _ _ _ w hC h
              · exact take1_ok _ _ _ _ _ _ _ _ w hC (Int.not_lt.1 h)
            · exact take1_fork _ _ _ _ _ _ _ _ _ w hC hs
      · exact bad_1 _ _ _ _ _ _ _ _ _ _ w hC
    · exact bad_other _ _ _ _ _ _ _ _ _ _ _ w h0 h1
end Go.Proofs.YtionmkmoddfehaaDoor
