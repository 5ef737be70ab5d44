/- The reference's node and folded totals: the walk. Conditions: named in each theorem. -/
import Derived.Test.YtkpbhbafapdboaaDoorRefG
namespace Go.Proofs.YtkpbhbafapdboaaDoor
open Go.RowKit Go.ChangeShapes Go.WideShapes Go.ChangeAt

theorem trio_boxes (w : World) (a b : Int) (x y : List Nat) (W : World) (hW : W = ((w.alloc (.cells (totR a x) 25)).alloc (.cells (totR b y) 25)).alloc (.cells (totR 0 zeroD) 25)) :
    TotAt W w.heap.size a x ∧ TotAt W (w.heap.size + 1) b y ∧ TotAt W (w.heap.size + 1 + 1) 0 zeroD ∧ Below w.heap.size w W ∧ W.heap.size = w.heap.size + 1 + 1 + 1 := by
  subst hW
  obtain ⟨t0, t1, b1, z1⟩ := pair_boxes w a b x y
  refine ⟨t0.alloc _, t1.alloc _, ?_, b1.alloc b1.size _, by simp⟩
  have h := TotAt.new ((w.alloc (.cells (totR a x) 25)).alloc (.cells (totR b y) 25)) 0 zeroD
  rwa [z1] at h
set_option maxHeartbeats 4000000 in
set_option maxRecDepth 100000 in
theorem rnode_any (l r : Tot) (hl : Dig l.2) (hr : Dig r.2) (w : World) :
    Calls Tryd.prog 16 #[tV l, tV r] w (fun e w' => e = .returned (tellU (nodeR l r)) ∧ Below w.heap.size w w') := by
  obtain ⟨a, x⟩ := l
  obtain ⟨b, y⟩ := r
  have HX := aside hl
  have HY := aside hr
  have HV : Hid (∀ g w, w.cell? ⟨g, 0, none⟩ = some (.int .i64 a) → w.cell? ⟨g, 1, none⟩ = some (.int .i64 b) →
    Calls Tryd.prog 35 #[.slice (some ⟨g, 0, none⟩) 2 2] w (fun e w' => e = .returned (.tuple #[.int .i64 (if addQ a b = 0 then a + b else 0), .int .i64 (addQ a b)]) ∧ w' = w)) := aside (fun g w h0 h1 => total_two a b g w h0 h1)
  by_cases hq : addQ a b = 0
  · obtain ⟨ha, hb, -⟩ := addQ_zero.1 hq
    have HR : Hid (tellU (nodeR (a, x) (b, y)) = .tuple #[tV (a + b, shaL (nodeT a x b y)), .int .i64 0]) := aside (by unfold nodeR; rw [if_pos hq]; rfl)
    rw [if_pos hq, hq] at HV
    have HMa := aside ha
    have HMb := aside hb
    have HL := aside (nodeT_len (a := a) (b := b) hl hr)
    have HSm := aside (nodeT_small (a := a) (b := b) hl hr)
    clear hq ha hb hl hr
    go_enter Tryd.func16, Tryd.ntmps16
    go_upto_region 1 with fail
    obtain ⟨w1, hw1⟩ : ∃ w1, w1 = ((w.alloc (.cells (totR a x) 25)).alloc (.cells (totR b y) 25)).alloc (.cells (totR 0 zeroD) 25) := ⟨_, rfl⟩
    obtain ⟨t0, t1, t2, b1, z1⟩ := trio_boxes w a b x y w1 hw1
    have T0 := aside t0
    have T1 := aside t1
    have T2 := aside t2
    have B1 := aside b1
    have Z1 := aside z1
    change Code.wp _ _ _ _ (((w.alloc (.cells (totR a x) 25)).alloc (.cells (totR b y) 25)).alloc (.cells (totR 0 zeroD) 25))
    rw [← hw1]
    clear t0 t1 t2 b1 z1 hw1
    obtain ⟨N, hN⟩ : ∃ N, N = w.heap.size := ⟨_, rfl⟩
    have EN := aside hN
    simp only [← hN] at T0 T1 T2 Z1 ⊢
    clear hN
    have d0 := T0.out.sum
    have d1 := T1.out.sum
    go_upto_region 2 with (first
      | (go_at_call 35; refine (HV.out _ _ (by simp) (by simp)).mono ?_; rintro e w' ⟨rfl, hw'⟩; rw [hw']; clear hw' w')
      | fail)
    have B2 : Hid (Below w1.heap.size w1 (w1.alloc (.cells #[.int .i64 a, .int .i64 b] 3))) := aside (below_more (Below.refl _ _) _)
    change Code.wp _ _ _ _ (w1.alloc (.cells #[.int .i64 a, .int .i64 b] 3))
    generalize w1.alloc (.cells #[.int .i64 a, .int .i64 b] 3) = w2 at B2 ⊢
    have T02 : Hid (TotAt w2 N a x) := aside (T0.out.below B2.out (by rw [Z1.out]; omega))
    have T12 : Hid (TotAt w2 (N + 1) b y) := aside (T1.out.below B2.out (by rw [Z1.out]; omega))
    have T22 : Hid (TotAt w2 (N + 1 + 1) 0 zeroD) := aside (T2.out.below B2.out (by rw [Z1.out]; omega))
    have HB2 : Hid (Below w.heap.size w w2) := aside (B1.out.trans (B2.out.mono B1.out.size))
    clear T0 T1 T2 B1 B2 Z1 d0 d1
    go_wp2_with (first
      | (refine wpList_load_row rfl 25 (.tmp 2) rfl N rfl 25 (totR a x) (0, 0) _ T02.out Tryd.underlying25 rfl (totInfo HX.out.1) ?_)
      | (refine wpList_load_row rfl 25 (.tmp 3) rfl (N + 1) rfl 25 (totR b y) (0, 0) _ T12.out Tryd.underlying25 rfl (totInfo HY.out.1) ?_)
      | (go_at_call 36; refine (ntext_any a b x y HX.out HY.out HMa.out HMb.out _).mono ?_; rintro e w3 ⟨G3, m3, c3, rfl, hy3, hb3⟩; have HY3 := aside hy3; have HB3 : Hid (Below w.heap.size w w3) := aside (below_then HB2.out hb3); have T23 : Hid (TotAt w3 (N + 1 + 1) 0 zeroD) := aside (T22.out.below hb3 T22.out.lt); clear hy3 hb3)
      | (go_at_call 29; refine (rsum_any (nodeT a x b y) G3 m3 c3 w3 HY3.out (by rw [← YSl.len1 HY3.out]; exact HL.out.2) HSm.out).mono ?_; rintro e w4 ⟨rfl, hb4⟩; have HB4 : Hid (Below w.heap.size w w4) := aside (below_then HB3.out hb4); have T24 : Hid (TotAt w4 (N + 1 + 1) 0 zeroD) := aside (T23.out.below hb4 T23.out.lt); clear hb4)
      | (refine wpList_tot rfl (.tmp 21) (.tmp 25) rfl (a + b) (shaL (nodeT a x b y)) rfl rfl (shaL_len _) ?_)
      | (refine wpList_store_row rfl 25 (.tmp 4) (.tmp 26) rfl (N + 1 + 1) (totR (a + b) (shaL (nodeT a x b y))) rfl rfl 25 (totR 0 zeroD) T24.out (totInfo (shaL_len _)) (tot_same rfl (shaL_len _)) (totR_one _ _) ?_)
      | fail)
    refine bodyPost_ret (results_cell_tmp rfl _ _ (N + 1 + 1) 25 (totR (a + b) (shaL (nodeT a x b y))) (0, 0) _ rfl (setRow_heap w4 (N + 1 + 1) _ _ _ _ T24.out) Tryd.underlying25 rfl (totInfo (shaL_len _))) rfl ?_
    exact ⟨by rw [HR.out]; rfl, below_setRow HB4.out _ (by rw [EN.out]; omega) _⟩
  · have HR : Hid (tellU (nodeR (a, x) (b, y)) = .tuple #[tV noTot, .int .i64 (addQ a b)]) := aside (by unfold nodeR; rw [if_neg hq]; rfl)
    rw [if_neg hq] at HV
    have e1 : ((addQ a b) != 0) = true := by simpa using hq
    generalize addQ a b = q at HV e1 HR
    clear hq hl hr
    go_enter Tryd.func16, Tryd.ntmps16
    go_upto_region 1 with fail
    obtain ⟨w1, hw1⟩ : ∃ w1, w1 = ((w.alloc (.cells (totR a x) 25)).alloc (.cells (totR b y) 25)).alloc (.cells (totR 0 zeroD) 25) := ⟨_, rfl⟩
    obtain ⟨t0, t1, t2, b1, z1⟩ := trio_boxes w a b x y w1 hw1
    have T0 := aside t0
    have T1 := aside t1
    have T2 := aside t2
    have B1 := aside b1
    have Z1 := aside z1
    change Code.wp _ _ _ _ (((w.alloc (.cells (totR a x) 25)).alloc (.cells (totR b y) 25)).alloc (.cells (totR 0 zeroD) 25))
    rw [← hw1]
    clear t0 t1 t2 b1 z1 hw1
    obtain ⟨N, hN⟩ : ∃ N, N = w.heap.size := ⟨_, rfl⟩
    have EN := aside hN
    simp only [← hN] at T0 T1 T2 Z1 ⊢
    clear hN
    have d0 := T0.out.sum
    have d1 := T1.out.sum
    go_upto_region 2 with (first
      | (go_at_call 35; refine (HV.out _ _ (by simp) (by simp)).mono ?_; rintro e w' ⟨rfl, hw'⟩; rw [hw']; clear hw' w')
      | fail)
    have B2 : Hid (Below w1.heap.size w1 (w1.alloc (.cells #[.int .i64 a, .int .i64 b] 3))) := aside (below_more (Below.refl _ _) _)
    change Code.wp _ _ _ _ (w1.alloc (.cells #[.int .i64 a, .int .i64 b] 3))
    generalize w1.alloc (.cells #[.int .i64 a, .int .i64 b] 3) = w2 at B2 ⊢
    have T22 : Hid (TotAt w2 (N + 1 + 1) 0 zeroD) := aside (T2.out.below B2.out (by rw [Z1.out]; omega))
    have HB2 : Hid (Below w.heap.size w w2) := aside (B1.out.trans (B2.out.mono B1.out.size))
    clear T0 T1 T2 B1 B2 Z1 d0 d1
    go_wp2_with (first
      | (refine wpList_totz rfl rfl ?_)
      | (refine wpList_store_row rfl 25 (.tmp 4) (.tmp 19) rfl (N + 1 + 1) (totR 0 zeroD) rfl rfl 25 (totR 0 zeroD) T22.out (totInfo rfl) (tot_same rfl rfl) (totR_one _ _) ?_)
      | fail)
    refine bodyPost_ret (results_cell_tmp rfl _ _ (N + 1 + 1) 25 (totR 0 zeroD) (0, 0) _ rfl (setRow_heap w2 (N + 1 + 1) _ _ _ _ T22.out) Tryd.underlying25 rfl (totInfo rfl)) rfl ?_
    exact ⟨by rw [HR.out]; rfl, below_setRow HB2.out _ (by rw [EN.out]; omega) _⟩
end Go.Proofs.YtkpbhbafapdboaaDoor
