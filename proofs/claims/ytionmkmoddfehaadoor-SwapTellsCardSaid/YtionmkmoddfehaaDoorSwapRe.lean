/- moneyerref3.Stepped, a case each, and at every deal. No condition but each theorem's own. -/
import Derived.Test.YtionmkmoddfehaaDoorSwapRc
import Derived.Test.YtionmkmoddfehaaDoorSwapRd
namespace Go.Proofs.YtionmkmoddfehaaDoor
open Go.RowKit Go.ChangeShapes Go.WideShapes Go.ChangeAt


/-- Stepped, at every deal and every act. -/
theorem stepped_any (d : Deal) (who act now : Int) (w : World) : Calls Tryd.prog 5 #[d.v, .int .i64 who, .int .i64 act, .int .i64 now] w (PostStepped d who act now w) := by
  obtain ⟨g0, g1, e0, e1, s0, s1, kn, nw⟩ := d
  by_cases h0 : who = 0
  · subst h0
    by_cases hC : COk ⟨g0, g1, e0, e1, s0, s1, kn, nw⟩ act now
    · by_cases a1 : act = 1
      · subst a1
        by_cases hs : s0 = 0
        · subst hs
          by_cases h : now < e0
          · exact rlock0_ok _ _ _ _ _ _ _ _ w hC h
          · exact rlock0_late _ _ _ _ _ _ _ _ w hC (Int.not_lt.1 h)
        · exact rlock0_fork _ _ _ _ _ _ _ _ _ w hC hs
      · by_cases a2 : act = 2
        · subst a2
          by_cases hs : s1 = 1
          · subst hs
            by_cases h : now < e1
            · cases kn
              · exact rclaim0_okf _ _ _ _ _ _ _ w hC h
              · exact rclaim0_okt _ _ _ _ _ _ _ w hC h
            · exact rclaim0_late _ _ _ _ _ _ _ _ w hC (Int.not_lt.1 h)
          · exact rclaim0_fork _ _ _ _ _ _ _ _ _ w hC hs
        · obtain rfl : act = 3 := by have := hC.1; have := hC.2.1; omega
          by_cases hs : s0 = 1
          · subst hs
            by_cases h : now < e0
            · exact rtake0_early _ _ _ _ _ _ _ _ w hC h
            · exact rtake0_ok _ _ _ _ _ _ _ _ w hC (Int.not_lt.1 h)
          · exact rtake0_fork _ _ _ _ _ _ _ _ _ w hC hs
    · exact rbad _ _ _ _ _ _ _ _ _ _ _ w (fun h => hC h.2)
  · by_cases h1 : who = 1
    · subst h1
      by_cases hC : COk ⟨g0, g1, e0, e1, s0, s1, kn, nw⟩ act now
      · by_cases a1 : act = 1
        · subst a1
          by_cases hs : s1 = 0
          · subst hs
            by_cases hs2 : s0 = 1
            · subst hs2
              by_cases h : now < e1
              · exact rlock1_ok _ _ _ _ _ _ _ w hC h
              · exact rlock1_late _ _ _ _ _ _ _ w hC (Int.not_lt.1 h)
            · exact rlock1_forkb _ _ _ _ _ _ _ _ w hC hs2
          · exact rlock1_fork _ _ _ _ _ _ _ _ _ w hC hs
        · by_cases a2 : act = 2
          · subst a2
            by_cases hs : s0 = 1
            · subst hs
              cases kn
              · exact rclaim1_lock _ _ _ _ _ _ _ w hC
              · by_cases h : now < e0
                · exact rclaim1_ok _ _ _ _ _ _ _ w hC h
                · exact rclaim1_late _ _ _ _ _ _ _ w hC (Int.not_lt.1 h)
            · exact rclaim1_fork _ _ _ _ _ _ _ _ _ w hC hs
          · obtain rfl : act = 3 := by have := hC.1; have := hC.2.1; omega
            by_cases hs : s1 = 1
            · subst hs
              by_cases h : now < e1
              · exact rtake1_early _ _ _ _ _ _ _ _ w hC h
              · exact rtake1_ok _ _ _ _ _ _ _ _ w hC (Int.not_lt.1 h)
            · exact rtake1_fork _ _ _ _ _ _ _ _ _ w hC hs
      · exact rbad _ _ _ _ _ _ _ _ _ _ _ w (fun h => hC h.2)
    · exact rbad _ _ _ _ _ _ _ _ _ _ _ w (fun h => h.1.elim h0 h1)
end Go.Proofs.YtionmkmoddfehaaDoor
