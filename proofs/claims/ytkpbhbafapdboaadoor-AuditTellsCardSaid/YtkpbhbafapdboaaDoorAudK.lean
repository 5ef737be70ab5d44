/- Fold at whatever; nothing is less than nothing: the walk of AuditBounds. Conditions: named in each theorem. -/
import Derived.Test.YtkpbhbafapdboaaDoorAudJ
namespace Go.Proofs.YtkpbhbafapdboaaDoor
open Go.RowKit Go.ChangeShapes Go.WideShapes Go.ChangeAt

set_option maxHeartbeats 2000000 in
set_option maxRecDepth 100000 in
theorem fold_b1 (t : Tot) (i n : Int) (e1 : n < 1) (A : Option Addr) (m c : Nat) (w : World) :
    Calls Tryd.prog 8 #[tV t, .int .i64 i, .int .i64 n, .slice A m c] w (fun e w' => e = .returned (tellV (noTot, 2)) ∧ Below w.heap.size w w') := by
  go_enter Tryd.func8, Tryd.ntmps8
  go_upto_region 1 with fail
  change Code.wp _ _ _ _ ((w.alloc (.cells (totR t.1 t.2) 25)).alloc (.cells (totR 0 zeroD) 25))
  have T0 : Hid (TotAt ((w.alloc (.cells (totR t.1 t.2) 25)).alloc (.cells (totR 0 zeroD) 25)) w.heap.size t.1 t.2) := aside ((TotAt.new w _ _).alloc _)
  have T1 : Hid (TotAt ((w.alloc (.cells (totR t.1 t.2) 25)).alloc (.cells (totR 0 zeroD) 25)) (w.heap.size + 1) 0 zeroD) := aside (by
    have h := TotAt.new (w.alloc (.cells (totR t.1 t.2) 25)) 0 zeroD
    rwa [show (w.alloc (.cells (totR t.1 t.2) 25)).heap.size = w.heap.size + 1 by simp] at h)
  have B1 : Hid (Below w.heap.size w ((w.alloc (.cells (totR t.1 t.2) 25)).alloc (.cells (totR 0 zeroD) 25))) := aside (((Below.refl _ _).alloc (Nat.le_refl _) _).alloc (by simp) _)
  generalize ((w.alloc (.cells (totR t.1 t.2) 25)).alloc (.cells (totR 0 zeroD) 25)) = w1 at T0 T1 B1 ⊢
  obtain ⟨N, hN⟩ : ∃ N, N = w.heap.size := ⟨_, rfl⟩
  have EN := aside hN
  simp only [← hN] at T0 T1 ⊢
  clear hN
  go_wp2_with (first
    | (refine wpList_totz rfl rfl ?_)
    | (refine wpList_store_row rfl 25 (.tmp 8) (.tmp 33) rfl (N + 1) (totR 0 zeroD) rfl rfl 25 (totR 0 zeroD) T1.out (totInfo rfl) rfl (totR_one _ _) ?_)
    | fail)
  refine bodyPost_ret (results_cell_tmp rfl _ _ (N + 1) 25 (totR 0 zeroD) (0, 0) _ rfl (setRow_heap w1 (N + 1) _ _ _ _ T1.out) Tryd.underlying25 rfl (totInfo rfl)) rfl ?_
  exact ⟨rfl, below_setRow B1.out _ (by rw [EN.out]; omega) _⟩
set_option maxHeartbeats 2000000 in
set_option maxRecDepth 100000 in
theorem fold_b2 (t : Tot) (i n : Int) (e2 : 256 < n) (A : Option Addr) (m c : Nat) (w : World) :
    Calls Tryd.prog 8 #[tV t, .int .i64 i, .int .i64 n, .slice A m c] w (fun e w' => e = .returned (tellV (noTot, 2)) ∧ Below w.heap.size w w') := by
  have e1 : (n < 1) = False := by simp only [eq_iff_iff, iff_false]; omega
  go_enter Tryd.func8, Tryd.ntmps8
  go_upto_region 1 with fail
  change Code.wp _ _ _ _ ((w.alloc (.cells (totR t.1 t.2) 25)).alloc (.cells (totR 0 zeroD) 25))
  have T0 : Hid (TotAt ((w.alloc (.cells (totR t.1 t.2) 25)).alloc (.cells (totR 0 zeroD) 25)) w.heap.size t.1 t.2) := aside ((TotAt.new w _ _).alloc _)
  have T1 : Hid (TotAt ((w.alloc (.cells (totR t.1 t.2) 25)).alloc (.cells (totR 0 zeroD) 25)) (w.heap.size + 1) 0 zeroD) := aside (by
    have h := TotAt.new (w.alloc (.cells (totR t.1 t.2) 25)) 0 zeroD
    rwa [show (w.alloc (.cells (totR t.1 t.2) 25)).heap.size = w.heap.size + 1 by simp] at h)
  have B1 : Hid (Below w.heap.size w ((w.alloc (.cells (totR t.1 t.2) 25)).alloc (.cells (totR 0 zeroD) 25))) := aside (((Below.refl _ _).alloc (Nat.le_refl _) _).alloc (by simp) _)
  generalize ((w.alloc (.cells (totR t.1 t.2) 25)).alloc (.cells (totR 0 zeroD) 25)) = w1 at T0 T1 B1 ⊢
  obtain ⟨N, hN⟩ : ∃ N, N = w.heap.size := ⟨_, rfl⟩
  have EN := aside hN
  simp only [← hN] at T0 T1 ⊢
  clear hN
  go_wp2_with (first
    | (refine wpList_totz rfl rfl ?_)
    | (refine wpList_store_row rfl 25 (.tmp 8) (.tmp 33) rfl (N + 1) (totR 0 zeroD) rfl rfl 25 (totR 0 zeroD) T1.out (totInfo rfl) rfl (totR_one _ _) ?_)
    | fail)
  refine bodyPost_ret (results_cell_tmp rfl _ _ (N + 1) 25 (totR 0 zeroD) (0, 0) _ rfl (setRow_heap w1 (N + 1) _ _ _ _ T1.out) Tryd.underlying25 rfl (totInfo rfl)) rfl ?_
  exact ⟨rfl, below_setRow B1.out _ (by rw [EN.out]; omega) _⟩
set_option maxHeartbeats 2000000 in
set_option maxRecDepth 100000 in
theorem fold_b3 (t : Tot) (i n : Int) (h1 : 1 ≤ n) (h2 : n ≤ 256) (e3 : i < 0) (A : Option Addr) (m c : Nat) (w : World) :
    Calls Tryd.prog 8 #[tV t, .int .i64 i, .int .i64 n, .slice A m c] w (fun e w' => e = .returned (tellV (noTot, 2)) ∧ Below w.heap.size w w') := by
  have e1 : (n < 1) = False := by simp only [eq_iff_iff, iff_false]; omega
  have e2 : (256 < n) = False := by simp only [eq_iff_iff, iff_false]; omega
  clear h1 h2
  go_enter Tryd.func8, Tryd.ntmps8
  go_upto_region 1 with fail
  change Code.wp _ _ _ _ ((w.alloc (.cells (totR t.1 t.2) 25)).alloc (.cells (totR 0 zeroD) 25))
  have T0 : Hid (TotAt ((w.alloc (.cells (totR t.1 t.2) 25)).alloc (.cells (totR 0 zeroD) 25)) w.heap.size t.1 t.2) := aside ((TotAt.new w _ _).alloc _)
  have T1 : Hid (TotAt ((w.alloc (.cells (totR t.1 t.2) 25)).alloc (.cells (totR 0 zeroD) 25)) (w.heap.size + 1) 0 zeroD) := aside (by
    have h := TotAt.new (w.alloc (.cells (totR t.1 t.2) 25)) 0 zeroD
    rwa [show (w.alloc (.cells (totR t.1 t.2) 25)).heap.size = w.heap.size + 1 by simp] at h)
  have B1 : Hid (Below w.heap.size w ((w.alloc (.cells (totR t.1 t.2) 25)).alloc (.cells (totR 0 zeroD) 25))) := aside (((Below.refl _ _).alloc (Nat.le_refl _) _).alloc (by simp) _)
  generalize ((w.alloc (.cells (totR t.1 t.2) 25)).alloc (.cells (totR 0 zeroD) 25)) = w1 at T0 T1 B1 ⊢
  obtain ⟨N, hN⟩ : ∃ N, N = w.heap.size := ⟨_, rfl⟩
  have EN := aside hN
  simp only [← hN] at T0 T1 ⊢
  clear hN
  go_wp2_with (first
    | (refine wpList_totz rfl rfl ?_)
    | (refine wpList_store_row rfl 25 (.tmp 8) (.tmp 33) rfl (N + 1) (totR 0 zeroD) rfl rfl 25 (totR 0 zeroD) T1.out (totInfo rfl) rfl (totR_one _ _) ?_)
    | fail)
  refine bodyPost_ret (results_cell_tmp rfl _ _ (N + 1) 25 (totR 0 zeroD) (0, 0) _ rfl (setRow_heap w1 (N + 1) _ _ _ _ T1.out) Tryd.underlying25 rfl (totInfo rfl)) rfl ?_
  exact ⟨rfl, below_setRow B1.out _ (by rw [EN.out]; omega) _⟩
set_option maxHeartbeats 2000000 in
set_option maxRecDepth 100000 in
theorem fold_b4 (t : Tot) (i n : Int) (h1 : 1 ≤ n) (h2 : n ≤ 256) (h3 : 0 ≤ i) (e4 : n ≤ i) (A : Option Addr) (m c : Nat) (w : World) :
    Calls Tryd.prog 8 #[tV t, .int .i64 i, .int .i64 n, .slice A m c] w (fun e w' => e = .returned (tellV (noTot, 2)) ∧ Below w.heap.size w w') := by
  have e1 : (n < 1) = False := by simp only [eq_iff_iff, iff_false]; omega
  have e2 : (256 < n) = False := by simp only [eq_iff_iff, iff_false]; omega
  have e3 : (i < 0) = False := by simp only [eq_iff_iff, iff_false]; omega
  clear h1 h2 h3
  go_enter Tryd.func8, Tryd.ntmps8
  go_upto_region 1 with fail
  change Code.wp _ _ _ _ ((w.alloc (.cells (totR t.1 t.2) 25)).alloc (.cells (totR 0 zeroD) 25))
  have T0 : Hid (TotAt ((w.alloc (.cells (totR t.1 t.2) 25)).alloc (.cells (totR 0 zeroD) 25)) w.heap.size t.1 t.2) := aside ((TotAt.new w _ _).alloc _)
  have T1 : Hid (TotAt ((w.alloc (.cells (totR t.1 t.2) 25)).alloc (.cells (totR 0 zeroD) 25)) (w.heap.size + 1) 0 zeroD) := aside (by
    have h := TotAt.new (w.alloc (.cells (totR t.1 t.2) 25)) 0 zeroD
    rwa [show (w.alloc (.cells (totR t.1 t.2) 25)).heap.size = w.heap.size + 1 by simp] at h)
  have B1 : Hid (Below w.heap.size w ((w.alloc (.cells (totR t.1 t.2) 25)).alloc (.cells (totR 0 zeroD) 25))) := aside (((Below.refl _ _).alloc (Nat.le_refl _) _).alloc (by simp) _)
  generalize ((w.alloc (.cells (totR t.1 t.2) 25)).alloc (.cells (totR 0 zeroD) 25)) = w1 at T0 T1 B1 ⊢
  obtain ⟨N, hN⟩ : ∃ N, N = w.heap.size := ⟨_, rfl⟩
  have EN := aside hN
  simp only [← hN] at T0 T1 ⊢
  clear hN
  go_wp2_with (first
    | (refine wpList_totz rfl rfl ?_)
    | (refine wpList_store_row rfl 25 (.tmp 8) (.tmp 33) rfl (N + 1) (totR 0 zeroD) rfl rfl 25 (totR 0 zeroD) T1.out (totInfo rfl) rfl (totR_one _ _) ?_)
    | fail)
  refine bodyPost_ret (results_cell_tmp rfl _ _ (N + 1) 25 (totR 0 zeroD) (0, 0) _ rfl (setRow_heap w1 (N + 1) _ _ _ _ T1.out) Tryd.underlying25 rfl (totInfo rfl)) rfl ?_
  exact ⟨rfl, below_setRow B1.out _ (by rw [EN.out]; omega) _⟩
set_option maxHeartbeats 2000000 in
set_option maxRecDepth 100000 in
theorem fold_len (t : Tot) (i n : Nat) (h1 : 1 ≤ n) (hn : n ≤ 256) (hi : i < n) (A : Option Addr) (m c : Nat) (hm : m ≠ (way i n).length) (w : World) :
    Calls Tryd.prog 8 #[tV t, .int .i64 i, .int .i64 n, .slice A m c] w (fun e w' => e = .returned (tellV (noTot, 3)) ∧ Below w.heap.size w w') := by
  have e1 : ((n : Int) < 1) = False := by simp only [eq_iff_iff, iff_false]; omega
  have e2 : ((256 : Int) < (n : Int)) = False := by simp only [eq_iff_iff, iff_false]; omega
  have e3 : ((i : Int) < 0) = False := by simp only [eq_iff_iff, iff_false]; omega
  have e4 : ((n : Int) ≤ (i : Int)) = False := by simp only [eq_iff_iff, iff_false]; omega
  have HSd := aside (sides_any i n h1 hn hi)
  have HM := aside hm
  clear h1 hn hi hm
  go_enter Tryd.func8, Tryd.ntmps8
  go_upto_region 1 with fail
  change Code.wp _ _ _ _ ((w.alloc (.cells (totR t.1 t.2) 25)).alloc (.cells (totR 0 zeroD) 25))
  have T0 : Hid (TotAt ((w.alloc (.cells (totR t.1 t.2) 25)).alloc (.cells (totR 0 zeroD) 25)) w.heap.size t.1 t.2) := aside ((TotAt.new w _ _).alloc _)
  have T1 : Hid (TotAt ((w.alloc (.cells (totR t.1 t.2) 25)).alloc (.cells (totR 0 zeroD) 25)) (w.heap.size + 1) 0 zeroD) := aside (by
    have h := TotAt.new (w.alloc (.cells (totR t.1 t.2) 25)) 0 zeroD
    rwa [show (w.alloc (.cells (totR t.1 t.2) 25)).heap.size = w.heap.size + 1 by simp] at h)
  have B1 : Hid (Below w.heap.size w ((w.alloc (.cells (totR t.1 t.2) 25)).alloc (.cells (totR 0 zeroD) 25))) := aside (((Below.refl _ _).alloc (Nat.le_refl _) _).alloc (by simp) _)
  generalize ((w.alloc (.cells (totR t.1 t.2) 25)).alloc (.cells (totR 0 zeroD) 25)) = w1 at T0 T1 B1 ⊢
  obtain ⟨N, hN⟩ : ∃ N, N = w.heap.size := ⟨_, rfl⟩
  have EN := aside hN
  simp only [← hN] at T0 T1 ⊢
  clear hN
  go_upto_region 4 with (first
    | (go_at_call 23; refine (HSd.out _).mono ?_; rintro e w2 ⟨A2, m2, c2, rfl, hs2, hb2, -⟩; have hml2 := BSl.len1 hs2; have HB2 := aside hb2; have T1b : Hid (TotAt w2 (N + 1) 0 zeroD) := aside (T1.out.below hb2 T1.out.lt); have T0b : Hid (TotAt w2 N t.1 t.2) := aside (T0.out.below hb2 T0.out.lt); clear hs2 hb2)
    | fail)
  have e5 : ((m : Int) != (m2 : Int)) = true := by
    rw [List.length_reverse] at hml2
    have := HM.out
    simp only [bne_iff_ne, ne_eq]
    omega
  clear hml2
  go_wp2_with (first
    | (refine wpList_totz rfl rfl ?_)
    | (refine wpList_store_row rfl 25 (.tmp 8) (.tmp 43) rfl (N + 1) (totR 0 zeroD) rfl rfl 25 (totR 0 zeroD) T1b.out (totInfo rfl) rfl (totR_one _ _) ?_)
    | fail)
  refine bodyPost_ret (results_cell_tmp rfl _ _ (N + 1) 25 (totR 0 zeroD) (0, 0) _ rfl (setRow_heap w2 (N + 1) _ _ _ _ T1b.out) Tryd.underlying25 rfl (totInfo rfl)) rfl ?_
  exact ⟨rfl, below_setRow (B1.out.trans (HB2.out.mono B1.out.size)) _ (by rw [EN.out]; omega) _⟩
set_option maxHeartbeats 2000000 in
set_option maxRecDepth 100000 in
theorem fold_sum (t : Tot) (ht : ¬ Mny t.1) (i n : Nat) (h1 : 1 ≤ n) (hn : n ≤ 256) (hi : i < n) (A : Option Addr) (m c : Nat) (hm : m = (way i n).length) (w : World) :
    Calls Tryd.prog 8 #[tV t, .int .i64 i, .int .i64 n, .slice A m c] w (fun e w' => e = .returned (tellV (noTot, 2)) ∧ Below w.heap.size w w') := by
  have e1 : ((n : Int) < 1) = False := by simp only [eq_iff_iff, iff_false]; omega
  have e2 : ((256 : Int) < (n : Int)) = False := by simp only [eq_iff_iff, iff_false]; omega
  have e3 : ((i : Int) < 0) = False := by simp only [eq_iff_iff, iff_false]; omega
  have e4 : ((n : Int) ≤ (i : Int)) = False := by simp only [eq_iff_iff, iff_false]; omega
  have HSd := aside (sides_any i n h1 hn hi)
  have HM := aside hm
  have HT := aside ht
  clear h1 hn hi hm ht
  go_enter Tryd.func8, Tryd.ntmps8
  go_upto_region 1 with fail
  change Code.wp _ _ _ _ ((w.alloc (.cells (totR t.1 t.2) 25)).alloc (.cells (totR 0 zeroD) 25))
  have T0 : Hid (TotAt ((w.alloc (.cells (totR t.1 t.2) 25)).alloc (.cells (totR 0 zeroD) 25)) w.heap.size t.1 t.2) := aside ((TotAt.new w _ _).alloc _)
  have T1 : Hid (TotAt ((w.alloc (.cells (totR t.1 t.2) 25)).alloc (.cells (totR 0 zeroD) 25)) (w.heap.size + 1) 0 zeroD) := aside (by
    have h := TotAt.new (w.alloc (.cells (totR t.1 t.2) 25)) 0 zeroD
    rwa [show (w.alloc (.cells (totR t.1 t.2) 25)).heap.size = w.heap.size + 1 by simp] at h)
  have B1 : Hid (Below w.heap.size w ((w.alloc (.cells (totR t.1 t.2) 25)).alloc (.cells (totR 0 zeroD) 25))) := aside (((Below.refl _ _).alloc (Nat.le_refl _) _).alloc (by simp) _)
  generalize ((w.alloc (.cells (totR t.1 t.2) 25)).alloc (.cells (totR 0 zeroD) 25)) = w1 at T0 T1 B1 ⊢
  obtain ⟨N, hN⟩ : ∃ N, N = w.heap.size := ⟨_, rfl⟩
  have EN := aside hN
  simp only [← hN] at T0 T1 ⊢
  clear hN
  go_upto_region 4 with (first
    | (go_at_call 23; refine (HSd.out _).mono ?_; rintro e w2 ⟨A2, m2, c2, rfl, hs2, hb2, -⟩; have hml2 := BSl.len1 hs2; have HB2 := aside hb2; have T1b : Hid (TotAt w2 (N + 1) 0 zeroD) := aside (T1.out.below hb2 T1.out.lt); have T0b : Hid (TotAt w2 N t.1 t.2) := aside (T0.out.below hb2 T0.out.lt); clear hs2 hb2)
    | fail)
  obtain rfl : m2 = m := by
    rw [List.length_reverse] at hml2
    have := HM.out
    omega
  clear hml2
  have d0 := T0b.out.sum
  go_wp2_with (first
    | (go_at_call 24; refine (check_bad t.1 HT.out _).mono ?_; rintro e w' ⟨rfl, hw'⟩; rw [hw']; clear hw' w')
    | (refine wpList_totz rfl rfl ?_)
    | (refine wpList_store_row rfl 25 (.tmp 8) (.tmp 50) rfl (N + 1) (totR 0 zeroD) rfl rfl 25 (totR 0 zeroD) T1b.out (totInfo rfl) rfl (totR_one _ _) ?_)
    | fail)
  refine bodyPost_ret (results_cell_tmp rfl _ _ (N + 1) 25 (totR 0 zeroD) (0, 0) _ rfl (setRow_heap w2 (N + 1) _ _ _ _ T1b.out) Tryd.underlying25 rfl (totInfo rfl)) rfl ?_
  exact ⟨rfl, below_setRow (B1.out.trans (HB2.out.mono B1.out.size)) _ (by rw [EN.out]; omega) _⟩
theorem foldP_dig : ∀ (path : List Tot) (W : List Bool) (t : Tot), Dig t.2 → (∀ x ∈ path, Dig x.2) → Dig (foldP t W path).1.2
  | [], W, t, ht, _ => by cases W <;> exact ht
  | _ :: _, [], _, ht, _ => ht
  | p :: ps, b :: bs, t, ht, hp => by
    unfold foldP
    have hR : Dig (if b = true then nodeR t p else nodeR p t).1.2 := by cases b <;> exact nodeR_dig _ _
    generalize (if b = true then nodeR t p else nodeR p t) = R at hR ⊢
    by_cases h0 : R.2 = 0
    · rw [if_pos h0]
      exact foldP_dig ps bs _ hR (fun x hx => hp x (List.mem_cons_of_mem _ hx))
    · rw [if_neg h0]
      exact zeroD_dig
theorem foldR_dig (t : Tot) (ht : Dig t.2) (i n : Int) (path : List Tot) (hp : ∀ x ∈ path, Dig x.2) : Dig (foldR t i n path).1.2 := by
  unfold foldR
  split
  · exact zeroD_dig
  split
  · exact zeroD_dig
  split
  · exact zeroD_dig
  exact foldP_dig _ _ _ ht hp
theorem fold_any (t : Tot) (ht : Dig t.2) (i n : Int) (path : List Tot) (hp : ∀ x ∈ path, Dig x.2) (A : Option Addr) (m c : Nat) (w : World) (h : TSl w w.heap.size A m path) (hg : RoundsAt w) :
    Calls Tryd.prog 8 #[tV t, .int .i64 i, .int .i64 n, .slice A m c] w (fun e w' => e = .returned (tellV (foldR t i n path)) ∧ Below w.heap.size w w') := by
  have hml := FSl.len totE_len (by decide) h
  unfold foldR
  by_cases c1 : n < 1
  · rw [if_pos (.inl c1)]
    exact fold_b1 t i n c1 A m c w
  by_cases c2 : 256 < n
  · rw [if_pos (.inr (.inl c2))]
    exact fold_b2 t i n c2 A m c w
  by_cases c3 : i < 0
  · rw [if_pos (.inr (.inr (.inl c3)))]
    exact fold_b3 t i n (by omega) (by omega) c3 A m c w
  by_cases c4 : n ≤ i
  · rw [if_pos (.inr (.inr (.inr c4)))]
    exact fold_b4 t i n (by omega) (by omega) (by omega) c4 A m c w
  rw [if_neg (by omega)]
  obtain ⟨k, rfl⟩ : ∃ k : Nat, i = k := ⟨i.toNat, by omega⟩
  obtain ⟨q, rfl⟩ : ∃ q : Nat, n = q := ⟨n.toNat, by omega⟩
  rw [Int.toNat_natCast, Int.toNat_natCast]
  by_cases c5 : path.length ≠ (way k q).length
  · rw [if_pos c5]
    exact fold_len t k q (by omega) (by omega) (by omega) A m c (by omega) w
  rw [if_neg c5]
  by_cases c6 : ¬ Mny t.1
  · rw [if_pos c6]
    exact fold_sum t c6 k q (by omega) (by omega) (by omega) A m c (by omega) w
  rw [if_neg c6]
  exact fold_loop t ht (Decidable.not_not.1 c6) k q (by omega) (by omega) (by omega) path hp A m c (Decidable.not_not.1 c5) w h hg
end Go.Proofs.YtkpbhbafapdboaaDoor
