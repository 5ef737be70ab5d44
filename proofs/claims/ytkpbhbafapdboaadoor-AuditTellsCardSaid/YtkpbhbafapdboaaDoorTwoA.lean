/- Two who are shown one root: where their ways part: the walk of part. Conditions: named in each theorem. -/
import Derived.Test.YtkpbhbafapdboaaDoorRefI
import Derived.Test.YtkpbhbafapdboaaDoorAudP
namespace Go.Proofs.YtkpbhbafapdboaaDoor
open Go.RowKit Go.ChangeShapes Go.WideShapes Go.ChangeAt

theorem tot_ne {s t : Tot} (h1 : s.2.length = 32) (h2 : t.2.length = 32) (h : s ≠ t) (W : World) : (Op.equalIn 10000 25 (.agg (totL s.1 s.2).toArray) (.agg (totL t.1 t.2).toArray)).run Tryd.prog W = .ok false W := by
  have e := tot_equal s.1 t.1 s.2 t.2 h1 h2 W
  have hf : ((s.1 == t.1) && decide (s.2 = t.2)) = false := by
    obtain ⟨s1, s2⟩ := s
    obtain ⟨t1, t2⟩ := t
    by_cases e1 : s1 = t1
    · subst e1
      have e2 : s2 ≠ t2 := fun e => h (by rw [e])
      simp [e2]
    · simp [e1]
  rw [hf] at e
  exact e
theorem tot_eq {s : Tot} (h1 : s.2.length = 32) (W : World) : (Op.equalIn 10000 25 (.agg (totL s.1 s.2).toArray) (.agg (totL s.1 s.2).toArray)).run Tryd.prog W = .ok true W := by
  have e := tot_equal s.1 s.1 s.2 s.2 h1 h1 W
  simp at e
  exact e
set_option maxHeartbeats 8000000 in
set_option maxRecDepth 100000 in
theorem split_any (a b : Tot) (ha : Dig a.2) (hb : Dig b.2) (i j n : Nat) (h2 : 2 ≤ n) (hn : n ≤ 256)
    (P Q : List Tot) (x y : Tot) (hP : ∀ t ∈ P ++ [x], Dig t.2) (hQ : ∀ t ∈ Q ++ [y], Dig t.2) (hi : i < halfN n) (hj : halfN n ≤ j) (hjn : j < n)
    (hlP : P.length = (way i (halfN n)).length) (hlQ : Q.length = (way (j - halfN n) (n - halfN n)).length) (hne : (fold0 a i (halfN n) P).1 ≠ y ∨ (fold0 b (j - halfN n) (n - halfN n) Q).1 ≠ x)
    (A B : Option Addr) (m l c d : Nat) (w : World) (hmc : m ≤ c) (hld : l ≤ d) (h : TSl w w.heap.size A m (P ++ [x])) (hq : TSl w w.heap.size B l (Q ++ [y])) :
    Calls Tryd.prog 9 #[tV a, .slice A m c, .int .i64 i, tV b, .slice B l d, .int .i64 j, .int .i64 n] w (fun e w' => (∃ z : Int, e = .returned (.tuple #[.bool true, .int .i64 z])) ∧ Below w.heap.size w w') := by
  have hh := half_lt (n := n) h2 hn
  have HHalf := aside (rhalf_any n h2 hn)
  generalize halfN n = k at hi hj hlP hlQ hne hh HHalf
  obtain ⟨M, hM⟩ : ∃ M, M = P.length := ⟨_, rfl⟩
  have hlM : m = M + 1 := by have := FSl.len totE_len (by decide) h; simp at this; omega
  subst hlM
  obtain ⟨pb, po, hA, hpb, hr, hd⟩ := TSl.at_ h hP (show M < M + 1 by omega)
  subst hA
  have hg : (P ++ [x]).getD M noTot = x := by rw [List.getD_eq_getElem?_getD, hM]; simp
  rw [hg] at hr hd
  have HXr := aside hr
  have HXd := aside hd
  have HRp : Hid (TSl w w.heap.size (some ⟨pb, po, none⟩) M P) := aside (by
    have := TSl.take h (k := M) (by omega)
    rwa [hM, List.take_left, ← hM] at this)
  have hPr : ∀ t ∈ P, Dig t.2 := fun t ht => hP t (List.mem_append_left _ ht)
  clear hr hd hg h hP
  obtain ⟨L, hL⟩ : ∃ L, L = Q.length := ⟨_, rfl⟩
  have hlL : l = L + 1 := by have := FSl.len totE_len (by decide) hq; simp at this; omega
  subst hlL
  obtain ⟨qb, qo, hA, hqb, hr, hd⟩ := TSl.at_ hq hQ (show L < L + 1 by omega)
  subst hA
  have hg : (Q ++ [y]).getD L noTot = y := by rw [List.getD_eq_getElem?_getD, hL]; simp
  rw [hg] at hr hd
  have HYr := aside hr
  have HYd := aside hd
  have HRq : Hid (TSl w w.heap.size (some ⟨qb, qo, none⟩) L Q) := aside (by
    have := TSl.take hq (k := L) (by omega)
    rwa [hL, List.take_left, ← hL] at this)
  have hQr : ∀ t ∈ Q, Dig t.2 := fun t ht => hQ t (List.mem_append_left _ ht)
  clear hr hd hg hq hQ
  have HU : Hid (∀ w', TSl w' w'.heap.size (some ⟨pb, po, none⟩) M P → Calls Tryd.prog 22 #[.agg (totR a.1 a.2), .int .i64 ((i : Nat) : Int), .int .i64 ((k : Nat) : Int), .slice (some ⟨pb, po, none⟩) M c] w' (fun e w'' => e = .returned (.tuple #[tV (fold0 a i k P).1, .int .i64 (fold0 a i k P).2]) ∧ Below w'.heap.size w' w'')) := aside (fun w' h' => folded_any k a ha i k P hPr _ M c w' (Nat.le_refl _) (by omega) (by omega) (by omega) hlP (by omega) h')
  have HDu0 := aside (fold0_dig a i k P ha hPr)
  have HV : Hid (∀ w', TSl w' w'.heap.size (some ⟨qb, qo, none⟩) L Q → Calls Tryd.prog 22 #[.agg (totR b.1 b.2), .int .i64 (((j - k) : Nat) : Int), .int .i64 (((n - k) : Nat) : Int), .slice (some ⟨qb, qo, none⟩) L d] w' (fun e w'' => e = .returned (.tuple #[tV (fold0 b (j - k) (n - k) Q).1, .int .i64 (fold0 b (j - k) (n - k) Q).2]) ∧ Below w'.heap.size w' w'')) := aside (fun w' h' => folded_any (n - k) b hb (j - k) (n - k) Q hQr _ L d w' (Nat.le_refl _) (by omega) (by omega) (by omega) hlQ (by omega) h')
  have HDv0 := aside (fold0_dig b (j - k) (n - k) Q hb hQr)
  generalize fold0 a i k P = fu at hne HU HDu0
  generalize fold0 b (j - k) (n - k) Q = fv at hne HV HDv0
  obtain ⟨u, eu⟩ := fu
  obtain ⟨v, ev⟩ := fv
  obtain ⟨jk, hjk⟩ : ∃ jk, jk = j - k := ⟨_, rfl⟩
  obtain ⟨nk, hnk⟩ : ∃ nk, nk = n - k := ⟨_, rfl⟩
  rw [← hjk, ← hnk] at HV
  have e1 : (j : Int) - (k : Int) = (jk : Int) := by omega
  have e2 : (n : Int) - (k : Int) = (nk : Int) := by omega
  have e3 : ((n : Int) == 1) = false := by simp only [beq_eq_false_iff_ne, ne_eq]; omega
  have lt1 : ((i : Int) < (k : Int)) = True := by simp only [eq_iff_iff, iff_true]; omega
  have lt2 : ((j : Int) < (k : Int)) = False := by simp only [eq_iff_iff, iff_false]; omega
  have lt3 : ((k : Int) ≤ (i : Int)) = False := by simp only [eq_iff_iff, iff_false]; omega
  have hM9 : M ≤ 256 := by rw [hM, hlP]; exact wayL_len _ _ _
  have hL9 : L ≤ 256 := by rw [hL, hlQ]; exact wayL_len _ _ _
  have hMc : M ≤ c := by omega
  have hLd : L ≤ d := by omega
  have hnb : (n : Int) ≤ 256 := by omega
  have hjb : (j : Int) ≤ 256 := by omega
  have hkb : (k : Int) ≤ 256 := by omega
  have HA := aside ha
  have HBd := aside hb
  have HNe := aside hne
  clear hjk hnk hM hL hlP hlQ ha hb hne hi hj hjn hh h2 hn hPr hQr
  go_enter Tryd.func9, Tryd.ntmps9
  go_upto_region 1 with fail
  change Code.wp _ _ _ _ ((w.alloc (.cells (totR a.1 a.2) 25)).alloc (.cells (totR b.1 b.2) 25))
  obtain ⟨t0, t1, b1, z1⟩ := pair_boxes w a.1 b.1 a.2 b.2
  have TA1 := aside t0
  have TB1 := aside t1
  have HB1 := aside b1
  clear t0 t1 b1 z1
  generalize ((w.alloc (.cells (totR a.1 a.2) 25)).alloc (.cells (totR b.1 b.2) 25)) = w1 at TA1 TB1 HB1 ⊢
  obtain ⟨N, hN⟩ : ∃ N, N = w.heap.size := ⟨_, rfl⟩
  simp only [← hN] at TA1 TB1 ⊢
  clear hN
  have HX1 : Hid (w1.rangeAt pb (po + M * 33) (totL x.1 x.2)) := aside (fun j v hv => (HB1.out.cell (p := ⟨pb, po + M * 33 + j, none⟩) hpb).trans (HXr.out j v hv))
  have RX := TotAt.new w1 0 zeroD
  go_upto_region 5 with (first
    | (go_at_call 25; refine (HHalf.out _).mono ?_; rintro e w' ⟨rfl, hw'⟩; rw [hw']; clear hw' w')
    | (refine wpList_load_mid rfl 25 (.tmp 39) rfl pb (po + M * 33) rfl (totL x.1 x.2) _ HX1.out Tryd.underlying25 rfl (totLI HXd.out.1) ?_)
    | (refine wpList_store_row rfl 25 (.tmp 17) (.tmp 40) rfl w1.heap.size (totR x.1 x.2) rfl rfl 25 (totR 0 zeroD) RX (totInfo HXd.out.1) (tot_same rfl HXd.out.1) (totR_one _ _) ?_)
    | fail)
  change Code.wp _ _ _ _ ((w1.alloc (.cells (totR 0 zeroD) 25)).setRow w1.heap.size (totR x.1 x.2))
  obtain ⟨w2, hw2⟩ : ∃ w2, w2 = ((w1.alloc (.cells (totR 0 zeroD) 25)).setRow w1.heap.size (totR x.1 x.2)) := ⟨_, rfl⟩
  obtain ⟨tn, bn, -⟩ := store_new w1 x.1 x.2 w2 hw2
  rw [← hw2]
  have TA2 : Hid (TotAt w2 N a.1 a.2) := aside (TA1.out.below bn TA1.out.lt)
  have TB2 : Hid (TotAt w2 (N + 1) b.1 b.2) := aside (TB1.out.below bn TB1.out.lt)
  have TX : Hid (TotAt w2 w1.heap.size x.1 x.2) := aside tn
  have Hw2 : Hid (Below w.heap.size w w2) := aside (HB1.out.trans (bn.mono HB1.out.size))
  obtain ⟨X, hX⟩ : ∃ X, X = w1.heap.size := ⟨_, rfl⟩
  rw [← hX] at TX ⊢
  clear tn bn hw2 hX
  have HY2 : Hid (w2.rangeAt qb (qo + L * 33) (totL y.1 y.2)) := aside (fun j v hv => (Hw2.out.cell (p := ⟨qb, qo + L * 33 + j, none⟩) hqb).trans (HYr.out j v hv))
  have RY := TotAt.new w2 0 zeroD
  clear RX HX1 TA1 TB1
  go_upto_region 6 with (first
    | (refine wpList_load_mid rfl 25 (.tmp 45) rfl qb (qo + L * 33) rfl (totL y.1 y.2) _ HY2.out Tryd.underlying25 rfl (totLI HYd.out.1) ?_)
    | (refine wpList_store_row rfl 25 (.tmp 18) (.tmp 46) rfl w2.heap.size (totR y.1 y.2) rfl rfl 25 (totR 0 zeroD) RY (totInfo HYd.out.1) (tot_same rfl HYd.out.1) (totR_one _ _) ?_)
    | fail)
  change Code.wp _ _ _ _ ((w2.alloc (.cells (totR 0 zeroD) 25)).setRow w2.heap.size (totR y.1 y.2))
  obtain ⟨w3, hw3⟩ : ∃ w3, w3 = ((w2.alloc (.cells (totR 0 zeroD) 25)).setRow w2.heap.size (totR y.1 y.2)) := ⟨_, rfl⟩
  obtain ⟨tn, bn, -⟩ := store_new w2 y.1 y.2 w3 hw3
  rw [← hw3]
  have TA3 : Hid (TotAt w3 N a.1 a.2) := aside (TA2.out.below bn TA2.out.lt)
  have TB3 : Hid (TotAt w3 (N + 1) b.1 b.2) := aside (TB2.out.below bn TB2.out.lt)
  have TX3 : Hid (TotAt w3 X x.1 x.2) := aside (TX.out.below bn TX.out.lt)
  have TY : Hid (TotAt w3 w2.heap.size y.1 y.2) := aside tn
  have Hw3 : Hid (Below w.heap.size w w3) := aside (Hw2.out.trans (bn.mono Hw2.out.size))
  obtain ⟨Y, hY⟩ : ∃ Y, Y = w2.heap.size := ⟨_, rfl⟩
  rw [← hY] at TY ⊢
  clear tn bn hw3 hY
  clear RY HY2 TA2 TB2 TX
  go_upto_region 21 with fail
  have RU := fun W => TotAt.new W 0 zeroD
  go_upto_region 22 with (first
    | (refine wpList_load_row rfl 25 (.tmp 7) rfl N rfl 25 (totR a.1 a.2) (0, 0) _ TA3.out Tryd.underlying25 rfl (totInfo HA.out.1) ?_)
    | (go_at_call 22; refine (HU.out w3 ((Sl.below HRp.out Hw3.out).more Hw3.out.size)).mono ?_; rintro e w4 ⟨rfl, hb4⟩; have B4 : Hid (Below w3.heap.size w3 w4) := aside hb4; have R4 := TotAt.new w4 0 zeroD; clear hb4)
    | (refine wpList_store_row rfl 25 (.tmp 24) (.tmp 151) rfl w4.heap.size (totR u.1 u.2) rfl rfl 25 (totR 0 zeroD) R4 (totInfo HDu0.out.1) (tot_same rfl HDu0.out.1) (totR_one _ _) ?_)
    | fail)
  have TB4 : Hid (TotAt w4 (N + 1) b.1 b.2) := aside (TB3.out.below B4.out TB3.out.lt)
  have TX4 : Hid (TotAt w4 X x.1 x.2) := aside (TX3.out.below B4.out TX3.out.lt)
  have TY4 : Hid (TotAt w4 Y y.1 y.2) := aside (TY.out.below B4.out TY.out.lt)
  have Hw4 : Hid (Below w.heap.size w w4) := aside (Hw3.out.trans (B4.out.mono Hw3.out.size))
  clear RU R4 TA3 TB3 TX3 TY B4
  change Code.wp _ _ _ _ ((w4.alloc (.cells (totR 0 zeroD) 25)).setRow w4.heap.size (totR u.1 u.2))
  obtain ⟨w5, hw5⟩ : ∃ w5, w5 = ((w4.alloc (.cells (totR 0 zeroD) 25)).setRow w4.heap.size (totR u.1 u.2)) := ⟨_, rfl⟩
  obtain ⟨tn, bn, -⟩ := store_new w4 u.1 u.2 w5 hw5
  rw [← hw5]
  have TB5 : Hid (TotAt w5 (N + 1) b.1 b.2) := aside (TB4.out.below bn TB4.out.lt)
  have TX5 : Hid (TotAt w5 X x.1 x.2) := aside (TX4.out.below bn TX4.out.lt)
  have TY5 : Hid (TotAt w5 Y y.1 y.2) := aside (TY4.out.below bn TY4.out.lt)
  have TU : Hid (TotAt w5 w4.heap.size u.1 u.2) := aside tn
  have Hw5 : Hid (Below w.heap.size w w5) := aside (Hw4.out.trans (bn.mono Hw4.out.size))
  obtain ⟨U, hU⟩ : ∃ U, U = w4.heap.size := ⟨_, rfl⟩
  rw [← hU] at TU ⊢
  clear tn bn hw5 hU
  go_upto_region 23 with (first
    | (refine wpList_load_row rfl 25 (.tmp 10) rfl (N + 1) rfl 25 (totR b.1 b.2) (0, 0) _ TB5.out Tryd.underlying25 rfl (totInfo HBd.out.1) ?_)
    | (go_at_call 22; refine (HV.out w5 ((Sl.below HRq.out Hw5.out).more Hw5.out.size)).mono ?_; rintro e w6 ⟨rfl, hb6⟩; have B6 : Hid (Below w5.heap.size w5 w6) := aside hb6; have R6 := TotAt.new w6 0 zeroD; clear hb6)
    | (refine wpList_store_row rfl 25 (.tmp 26) (.tmp 163) rfl w6.heap.size (totR v.1 v.2) rfl rfl 25 (totR 0 zeroD) R6 (totInfo HDv0.out.1) (tot_same rfl HDv0.out.1) (totR_one _ _) ?_)
    | fail)
  have TX6 : Hid (TotAt w6 X x.1 x.2) := aside (TX5.out.below B6.out TX5.out.lt)
  have TY6 : Hid (TotAt w6 Y y.1 y.2) := aside (TY5.out.below B6.out TY5.out.lt)
  have TU6 : Hid (TotAt w6 U u.1 u.2) := aside (TU.out.below B6.out TU.out.lt)
  have Hw6 : Hid (Below w.heap.size w w6) := aside (Hw5.out.trans (B6.out.mono Hw5.out.size))
  clear R6 TB5 TX5 TY5 TU B6 TB4 TX4 TY4
  change Code.wp _ _ _ _ ((w6.alloc (.cells (totR 0 zeroD) 25)).setRow w6.heap.size (totR v.1 v.2))
  obtain ⟨w7, hw7⟩ : ∃ w7, w7 = ((w6.alloc (.cells (totR 0 zeroD) 25)).setRow w6.heap.size (totR v.1 v.2)) := ⟨_, rfl⟩
  obtain ⟨tn, bn, -⟩ := store_new w6 v.1 v.2 w7 hw7
  rw [← hw7]
  have TX5 : Hid (TotAt w7 X x.1 x.2) := aside (TX6.out.below bn TX6.out.lt)
  have TY5 : Hid (TotAt w7 Y y.1 y.2) := aside (TY6.out.below bn TY6.out.lt)
  have TU5 : Hid (TotAt w7 U u.1 u.2) := aside (TU6.out.below bn TU6.out.lt)
  have TV : Hid (TotAt w7 w6.heap.size v.1 v.2) := aside tn
  have Hw7 : Hid (Below w.heap.size w w7) := aside (Hw6.out.trans (bn.mono Hw6.out.size))
  obtain ⟨V, hV⟩ : ∃ V, V = w6.heap.size := ⟨_, rfl⟩
  rw [← hV] at TV ⊢
  clear tn bn hw7 hV
  have HDu := aside HDu0.out
  have HDx0 := HXd
  have HDy0 := HYd
  have hB0 : Below w7.heap.size w7 w7.drew := below_drawn (Below.refl _ _) 1
  clear TX6 TY6 TU6 HU HV e1 e2 e3 lt1 lt2 lt3
  refine wp_region_noPanic ?_
  refine wp_region_held_drew (S := (fun w' => Below w7.heap.size w7 w')) (by kernel_rfl) hB0 (fun hS => ?_)
  by_cases huy : u = y
  · have hvx : v ≠ x := HNe.out.resolve_left (fun h => h huy)
    have heq1 := fun W => tot_eq (s := u) HDu0.out.1 W
    have heq2 := fun W => tot_ne HDv0.out.1 HDx0.out.1 hvx W
    subst huy
    clear HNe hvx
    refine wpAnyH_take (i := 0) (v := _) rfl (by kernel_rfl) (by kernel_rfl) (by kernel_rfl) (fun _ _ _ h => h) (yieldsIf_load_mid (by rfl) _ _ rfl U 0 rfl (totL u.1 u.2) _ (fun W hW => (TU5.out.below hW TU5.out.lt).range) Tryd.underlying25 rfl (totLI HDu0.out.1)) hS ?_
    (repeat (first | simp only [List.getElem_toArray] | simp only [List.getElem_cons_succ] | simp only [List.getElem_cons_zero] | simp only [Act.put] | simp only [List.setIfInBounds_toArray] | simp only [List.set_cons_succ] | simp only [List.set_cons_zero]))
    refine wpAnyH_take (i := 1) (v := _) rfl (by kernel_rfl) (by kernel_rfl) (by kernel_rfl) (fun _ _ _ h => h) (yieldsIf_load_mid (by rfl) _ _ rfl Y 0 rfl (totL u.1 u.2) _ (fun W hW => (TY5.out.below hW TY5.out.lt).range) Tryd.underlying25 rfl (totLI HDu0.out.1)) hS ?_
    (repeat (first | simp only [List.getElem_toArray] | simp only [List.getElem_cons_succ] | simp only [List.getElem_cons_zero] | simp only [Act.put] | simp only [List.setIfInBounds_toArray] | simp only [List.set_cons_succ] | simp only [List.set_cons_zero]))
    refine wpAnyH_take (i := 2) (v := .bool false) rfl (by kernel_rfl) (by kernel_rfl) (by kernel_rfl) (fun _ _ _ h => h) (Or.inl ⟨by rfl, ?_⟩) hS ?_
    · (intro W hSw; (try dsimp only at hSw); go_simp; try with_reducible rfl)
    (repeat (first | simp only [List.getElem_toArray] | simp only [List.getElem_cons_succ] | simp only [List.getElem_cons_zero] | simp only [Act.put] | simp only [List.setIfInBounds_toArray] | simp only [List.set_cons_succ] | simp only [List.set_cons_zero]))
    refine wpAnyH_take (i := 3) (v := .bool false) rfl (by kernel_rfl) (by kernel_rfl) (by kernel_rfl) (fun _ _ _ h => h) (Or.inl ⟨by rfl, ?_⟩) hS ?_
    · (intro W hSw; (try dsimp only at hSw); go_simp; try with_reducible rfl)
    (repeat (first | simp only [List.getElem_toArray] | simp only [List.getElem_cons_succ] | simp only [List.getElem_cons_zero] | simp only [Act.put] | simp only [List.setIfInBounds_toArray] | simp only [List.set_cons_succ] | simp only [List.set_cons_zero]))
    refine wpAnyH_take (i := 4) (v := _) rfl (by kernel_rfl) (by kernel_rfl) (by kernel_rfl) (fun _ _ _ h => h) (yieldsIf_load_mid (by rfl) _ _ rfl V 0 rfl (totL v.1 v.2) _ (fun W hW => (TV.out.below hW TV.out.lt).range) Tryd.underlying25 rfl (totLI HDv0.out.1)) hS ?_
    (repeat (first | simp only [List.getElem_toArray] | simp only [List.getElem_cons_succ] | simp only [List.getElem_cons_zero] | simp only [Act.put] | simp only [List.setIfInBounds_toArray] | simp only [List.set_cons_succ] | simp only [List.set_cons_zero]))
    refine wpAnyH_take (i := 5) (v := _) rfl (by kernel_rfl) (by kernel_rfl) (by kernel_rfl) (fun _ _ _ h => h) (yieldsIf_load_mid (by rfl) _ _ rfl X 0 rfl (totL x.1 x.2) _ (fun W hW => (TX5.out.below hW TX5.out.lt).range) Tryd.underlying25 rfl (totLI HDx0.out.1)) hS ?_
    (repeat (first | simp only [List.getElem_toArray] | simp only [List.getElem_cons_succ] | simp only [List.getElem_cons_zero] | simp only [Act.put] | simp only [List.setIfInBounds_toArray] | simp only [List.set_cons_succ] | simp only [List.set_cons_zero]))
    refine wpAnyH_take (i := 6) (v := .bool true) rfl (by kernel_rfl) (by kernel_rfl) (by kernel_rfl) (fun _ _ _ h => h) (Or.inl ⟨by rfl, ?_⟩) hS ?_
    · (intro W hSw; (try dsimp only at hSw); go_simp; try with_reducible rfl)
    (repeat (first | simp only [List.getElem_toArray] | simp only [List.getElem_cons_succ] | simp only [List.getElem_cons_zero] | simp only [Act.put] | simp only [List.setIfInBounds_toArray] | simp only [List.set_cons_succ] | simp only [List.set_cons_zero]))
    refine wpAnyH_take (i := 7) (v := .bool true) rfl (by kernel_rfl) (by kernel_rfl) (by kernel_rfl) (fun _ _ _ h => h) (Or.inl ⟨by rfl, ?_⟩) hS ?_
    · (intro W hSw; (try dsimp only at hSw); go_simp; try with_reducible rfl)
    (repeat (first | simp only [List.getElem_toArray] | simp only [List.getElem_cons_succ] | simp only [List.getElem_cons_zero] | simp only [Act.put] | simp only [List.setIfInBounds_toArray] | simp only [List.set_cons_succ] | simp only [List.set_cons_zero]))
    refine wpAnyH_take (i := 8) (v := ?_) rfl (by kernel_rfl) (by kernel_rfl) (by kernel_rfl) (fun _ _ _ h => h) (Or.inl ⟨by rfl, ?_⟩) hS ?_
    rotate_left
    · (intro W hSw; (try dsimp only at hSw); go_simp; try with_reducible rfl)
    (repeat (first | simp only [List.getElem_toArray] | simp only [List.getElem_cons_succ] | simp only [List.getElem_cons_zero] | simp only [Act.put] | simp only [List.setIfInBounds_toArray] | simp only [List.set_cons_succ] | simp only [List.set_cons_zero]))
    refine wpAnyH_take (i := 9) (v := ?_) rfl (by kernel_rfl) (by kernel_rfl) (by kernel_rfl) (fun _ _ _ h => h) (Or.inl ⟨by rfl, ?_⟩) hS ?_
    rotate_left
    · (intro W hSw; (try dsimp only at hSw); have c := (TU5.out.below hSw TU5.out.lt).sum; go_simp; try with_reducible rfl)
    (repeat (first | simp only [List.getElem_toArray] | simp only [List.getElem_cons_succ] | simp only [List.getElem_cons_zero] | simp only [Act.put] | simp only [List.setIfInBounds_toArray] | simp only [List.set_cons_succ] | simp only [List.set_cons_zero]))
    refine wpAnyH_take (i := 10) (v := ?_) rfl (by kernel_rfl) (by kernel_rfl) (by kernel_rfl) (fun _ _ _ h => h) (Or.inl ⟨by rfl, ?_⟩) hS ?_
    rotate_left
    · (intro W hSw; (try dsimp only at hSw); go_simp; try with_reducible rfl)
    (repeat (first | simp only [List.getElem_toArray] | simp only [List.getElem_cons_succ] | simp only [List.getElem_cons_zero] | simp only [Act.put] | simp only [List.setIfInBounds_toArray] | simp only [List.set_cons_succ] | simp only [List.set_cons_zero]))
    refine wpAnyH_take (i := 11) (v := ?_) rfl (by kernel_rfl) (by kernel_rfl) (by kernel_rfl) (fun _ _ _ h => h) (Or.inl ⟨by rfl, ?_⟩) hS ?_
    rotate_left
    · (intro W hSw; (try dsimp only at hSw); have c := (TV.out.below hSw TV.out.lt).sum; go_simp; try with_reducible rfl)
    (repeat (first | simp only [List.getElem_toArray] | simp only [List.getElem_cons_succ] | simp only [List.getElem_cons_zero] | simp only [Act.put] | simp only [List.setIfInBounds_toArray] | simp only [List.set_cons_succ] | simp only [List.set_cons_zero]))
    refine wpAnyH_take (i := 12) (v := ?_) rfl (by kernel_rfl) (by kernel_rfl) (by kernel_rfl) (fun _ _ _ h => h) (Or.inl ⟨by rfl, ?_⟩) hS ?_
    rotate_left
    · (intro W hSw; (try dsimp only at hSw); go_simp; try with_reducible rfl)
    (repeat (first | simp only [List.getElem_toArray] | simp only [List.getElem_cons_succ] | simp only [List.getElem_cons_zero] | simp only [Act.put] | simp only [List.setIfInBounds_toArray] | simp only [List.set_cons_succ] | simp only [List.set_cons_zero]))
    refine wpAnyH_take (i := 13) (v := .bool true) rfl (by kernel_rfl) (by kernel_rfl) (by kernel_rfl) (fun _ _ _ h => h) (Or.inl ⟨by rfl, ?_⟩) hS ?_
    · (intro W hSw; (try dsimp only at hSw); go_simp; try with_reducible rfl)
    (repeat (first | simp only [List.getElem_toArray] | simp only [List.getElem_cons_succ] | simp only [List.getElem_cons_zero] | simp only [Act.put] | simp only [List.setIfInBounds_toArray] | simp only [List.set_cons_succ] | simp only [List.set_cons_zero]))
    refine wpAnyH_take (i := 14) (v := ?_) rfl (by kernel_rfl) (by kernel_rfl) (by kernel_rfl) (fun _ _ _ h => h) (Or.inl ⟨by rfl, ?_⟩) hS ?_
    rotate_left
    · (intro W hSw; (try dsimp only at hSw); go_simp; try with_reducible rfl)
    (repeat (first | simp only [List.getElem_toArray] | simp only [List.getElem_cons_succ] | simp only [List.getElem_cons_zero] | simp only [Act.put] | simp only [List.setIfInBounds_toArray] | simp only [List.set_cons_succ] | simp only [List.set_cons_zero]))
    refine wpAnyH_done (by kernel_rfl) ?_ _
    refine NoPanic.normal ?_
    go_wp2_with fail
    go_ret2
    exact ⟨⟨_, rfl⟩, below_drawn Hw7.out 1⟩
  · have heq1 := fun W => tot_ne HDu0.out.1 HDy0.out.1 huy W
    clear HNe huy
    refine wpAnyH_take (i := 0) (v := _) rfl (by kernel_rfl) (by kernel_rfl) (by kernel_rfl) (fun _ _ _ h => h) (yieldsIf_load_mid (by rfl) _ _ rfl U 0 rfl (totL u.1 u.2) _ (fun W hW => (TU5.out.below hW TU5.out.lt).range) Tryd.underlying25 rfl (totLI HDu0.out.1)) hS ?_
    (repeat (first | simp only [List.getElem_toArray] | simp only [List.getElem_cons_succ] | simp only [List.getElem_cons_zero] | simp only [Act.put] | simp only [List.setIfInBounds_toArray] | simp only [List.set_cons_succ] | simp only [List.set_cons_zero]))
    refine wpAnyH_take (i := 1) (v := _) rfl (by kernel_rfl) (by kernel_rfl) (by kernel_rfl) (fun _ _ _ h => h) (yieldsIf_load_mid (by rfl) _ _ rfl Y 0 rfl (totL y.1 y.2) _ (fun W hW => (TY5.out.below hW TY5.out.lt).range) Tryd.underlying25 rfl (totLI HDy0.out.1)) hS ?_
    (repeat (first | simp only [List.getElem_toArray] | simp only [List.getElem_cons_succ] | simp only [List.getElem_cons_zero] | simp only [Act.put] | simp only [List.setIfInBounds_toArray] | simp only [List.set_cons_succ] | simp only [List.set_cons_zero]))
    refine wpAnyH_take (i := 2) (v := .bool true) rfl (by kernel_rfl) (by kernel_rfl) (by kernel_rfl) (fun _ _ _ h => h) (Or.inl ⟨by rfl, ?_⟩) hS ?_
    · (intro W hSw; (try dsimp only at hSw); go_simp; try with_reducible rfl)
    (repeat (first | simp only [List.getElem_toArray] | simp only [List.getElem_cons_succ] | simp only [List.getElem_cons_zero] | simp only [Act.put] | simp only [List.setIfInBounds_toArray] | simp only [List.set_cons_succ] | simp only [List.set_cons_zero]))
    refine wpAnyH_take (i := 3) (v := .bool true) rfl (by kernel_rfl) (by kernel_rfl) (by kernel_rfl) (fun _ _ _ h => h) (Or.inl ⟨by rfl, ?_⟩) hS ?_
    · (intro W hSw; (try dsimp only at hSw); go_simp; try with_reducible rfl)
    (repeat (first | simp only [List.getElem_toArray] | simp only [List.getElem_cons_succ] | simp only [List.getElem_cons_zero] | simp only [Act.put] | simp only [List.setIfInBounds_toArray] | simp only [List.set_cons_succ] | simp only [List.set_cons_zero]))
    refine wpAnyH_take (i := 4) (v := undef) rfl (by kernel_rfl) (by kernel_rfl) (by kernel_rfl) (fun _ _ _ h => h) (Or.inr ⟨by rfl, rfl⟩) hS ?_
    (repeat (first | simp only [List.getElem_toArray] | simp only [List.getElem_cons_succ] | simp only [List.getElem_cons_zero] | simp only [Act.put] | simp only [List.setIfInBounds_toArray] | simp only [List.set_cons_succ] | simp only [List.set_cons_zero]))
    refine wpAnyH_take (i := 5) (v := undef) rfl (by kernel_rfl) (by kernel_rfl) (by kernel_rfl) (fun _ _ _ h => h) (Or.inr ⟨by rfl, rfl⟩) hS ?_
    (repeat (first | simp only [List.getElem_toArray] | simp only [List.getElem_cons_succ] | simp only [List.getElem_cons_zero] | simp only [Act.put] | simp only [List.setIfInBounds_toArray] | simp only [List.set_cons_succ] | simp only [List.set_cons_zero]))
    refine wpAnyH_take (i := 6) (v := undef) rfl (by kernel_rfl) (by kernel_rfl) (by kernel_rfl) (fun _ _ _ h => h) (Or.inr ⟨by rfl, rfl⟩) hS ?_
    (repeat (first | simp only [List.getElem_toArray] | simp only [List.getElem_cons_succ] | simp only [List.getElem_cons_zero] | simp only [Act.put] | simp only [List.setIfInBounds_toArray] | simp only [List.set_cons_succ] | simp only [List.set_cons_zero]))
    refine wpAnyH_take (i := 7) (v := .bool true) rfl (by kernel_rfl) (by kernel_rfl) (by kernel_rfl) (fun _ _ _ h => h) (Or.inl ⟨by rfl, ?_⟩) hS ?_
    · (intro W hSw; (try dsimp only at hSw); go_simp; try with_reducible rfl)
    (repeat (first | simp only [List.getElem_toArray] | simp only [List.getElem_cons_succ] | simp only [List.getElem_cons_zero] | simp only [Act.put] | simp only [List.setIfInBounds_toArray] | simp only [List.set_cons_succ] | simp only [List.set_cons_zero]))
    refine wpAnyH_take (i := 8) (v := ?_) rfl (by kernel_rfl) (by kernel_rfl) (by kernel_rfl) (fun _ _ _ h => h) (Or.inl ⟨by rfl, ?_⟩) hS ?_
    rotate_left
    · (intro W hSw; (try dsimp only at hSw); go_simp; try with_reducible rfl)
    (repeat (first | simp only [List.getElem_toArray] | simp only [List.getElem_cons_succ] | simp only [List.getElem_cons_zero] | simp only [Act.put] | simp only [List.setIfInBounds_toArray] | simp only [List.set_cons_succ] | simp only [List.set_cons_zero]))
    refine wpAnyH_take (i := 9) (v := ?_) rfl (by kernel_rfl) (by kernel_rfl) (by kernel_rfl) (fun _ _ _ h => h) (Or.inl ⟨by rfl, ?_⟩) hS ?_
    rotate_left
    · (intro W hSw; (try dsimp only at hSw); have c := (TU5.out.below hSw TU5.out.lt).sum; go_simp; try with_reducible rfl)
    (repeat (first | simp only [List.getElem_toArray] | simp only [List.getElem_cons_succ] | simp only [List.getElem_cons_zero] | simp only [Act.put] | simp only [List.setIfInBounds_toArray] | simp only [List.set_cons_succ] | simp only [List.set_cons_zero]))
    refine wpAnyH_take (i := 10) (v := ?_) rfl (by kernel_rfl) (by kernel_rfl) (by kernel_rfl) (fun _ _ _ h => h) (Or.inl ⟨by rfl, ?_⟩) hS ?_
    rotate_left
    · (intro W hSw; (try dsimp only at hSw); go_simp; try with_reducible rfl)
    (repeat (first | simp only [List.getElem_toArray] | simp only [List.getElem_cons_succ] | simp only [List.getElem_cons_zero] | simp only [Act.put] | simp only [List.setIfInBounds_toArray] | simp only [List.set_cons_succ] | simp only [List.set_cons_zero]))
    refine wpAnyH_take (i := 11) (v := ?_) rfl (by kernel_rfl) (by kernel_rfl) (by kernel_rfl) (fun _ _ _ h => h) (Or.inl ⟨by rfl, ?_⟩) hS ?_
    rotate_left
    · (intro W hSw; (try dsimp only at hSw); have c := (TV.out.below hSw TV.out.lt).sum; go_simp; try with_reducible rfl)
    (repeat (first | simp only [List.getElem_toArray] | simp only [List.getElem_cons_succ] | simp only [List.getElem_cons_zero] | simp only [Act.put] | simp only [List.setIfInBounds_toArray] | simp only [List.set_cons_succ] | simp only [List.set_cons_zero]))
    refine wpAnyH_take (i := 12) (v := ?_) rfl (by kernel_rfl) (by kernel_rfl) (by kernel_rfl) (fun _ _ _ h => h) (Or.inl ⟨by rfl, ?_⟩) hS ?_
    rotate_left
    · (intro W hSw; (try dsimp only at hSw); go_simp; try with_reducible rfl)
    (repeat (first | simp only [List.getElem_toArray] | simp only [List.getElem_cons_succ] | simp only [List.getElem_cons_zero] | simp only [Act.put] | simp only [List.setIfInBounds_toArray] | simp only [List.set_cons_succ] | simp only [List.set_cons_zero]))
    refine wpAnyH_take (i := 13) (v := .bool true) rfl (by kernel_rfl) (by kernel_rfl) (by kernel_rfl) (fun _ _ _ h => h) (Or.inl ⟨by rfl, ?_⟩) hS ?_
    · (intro W hSw; (try dsimp only at hSw); go_simp; try with_reducible rfl)
    (repeat (first | simp only [List.getElem_toArray] | simp only [List.getElem_cons_succ] | simp only [List.getElem_cons_zero] | simp only [Act.put] | simp only [List.setIfInBounds_toArray] | simp only [List.set_cons_succ] | simp only [List.set_cons_zero]))
    refine wpAnyH_take (i := 14) (v := ?_) rfl (by kernel_rfl) (by kernel_rfl) (by kernel_rfl) (fun _ _ _ h => h) (Or.inl ⟨by rfl, ?_⟩) hS ?_
    rotate_left
    · (intro W hSw; (try dsimp only at hSw); go_simp; try with_reducible rfl)
    (repeat (first | simp only [List.getElem_toArray] | simp only [List.getElem_cons_succ] | simp only [List.getElem_cons_zero] | simp only [Act.put] | simp only [List.setIfInBounds_toArray] | simp only [List.set_cons_succ] | simp only [List.set_cons_zero]))
    refine wpAnyH_done (by kernel_rfl) ?_ _
    refine NoPanic.normal ?_
    go_wp2_with fail
    go_ret2
    exact ⟨⟨_, rfl⟩, below_drawn Hw7.out 1⟩
end Go.Proofs.YtkpbhbafapdboaaDoor
