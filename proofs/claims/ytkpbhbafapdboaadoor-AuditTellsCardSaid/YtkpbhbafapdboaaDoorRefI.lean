/- The reference's folded totals: the walk. Conditions: named in each theorem. -/
import Derived.Test.YtkpbhbafapdboaaDoorRefH
import Derived.Test.YtkpbhbafapdboaaDoorAudN
namespace Go.Proofs.YtkpbhbafapdboaaDoor
open Go.RowKit Go.ChangeShapes Go.WideShapes Go.ChangeAt

/-- What a leaf and a path of the right length make. -/
def fold0 (t : Tot) (i n : Nat) (path : List Tot) : Tot × Int := if Mny t.1 then foldP t (way i n).reverse path else (noTot, 2)
theorem nodeR_eta (l r : Tot) : (if (nodeR l r).2 = 0 then ((nodeR l r).1, (0 : Int)) else (noTot, (nodeR l r).2)) = nodeR l r := by
  unfold nodeR
  by_cases h : addQ l.1 r.1 = 0
  · rw [if_pos h]; rfl
  · rw [if_neg h]; exact if_neg h
theorem fold0_one (t : Tot) (i : Nat) : fold0 t i 1 [] = if Mny t.1 then (t, 0) else (noTot, 2) := by
  unfold fold0
  rw [way_one i 1 (Nat.le_refl _)]
  rfl
theorem fold0_step (t : Tot) (i n : Nat) (h : 2 ≤ n) (hn : n ≤ 256) (rest : List Tot) (p : Tot) (b : Bool) (hb : b = decide (i < halfN n)) (j m : Nat) (hj : j = if i < halfN n then i else i - halfN n) (hm : m = if i < halfN n then halfN n else n - halfN n) (hl : rest.length = (way j m).length) :
    fold0 t i n (rest ++ [p]) = if (fold0 t j m rest).2 = 0 then (if b then nodeR (fold0 t j m rest).1 p else nodeR p (fold0 t j m rest).1) else (noTot, (fold0 t j m rest).2) := by
  unfold fold0
  by_cases ht : Mny t.1
  · rw [if_pos ht, if_pos ht, way_step i n h hn, ← hb, ← hj, ← hm, List.reverse_cons, foldP_append _ _ _ _ _ (by rw [List.length_reverse]; omega)]
    generalize foldP t (way j m).reverse rest = R
    show (if R.2 = 0 then (if (if b then nodeR R.1 p else nodeR p R.1).2 = 0 then ((if b then nodeR R.1 p else nodeR p R.1).1, (0 : Int)) else (noTot, (if b then nodeR R.1 p else nodeR p R.1).2)) else (noTot, R.2)) = _
    cases b
    · have := nodeR_eta p R.1
      simp only [Bool.false_eq_true, if_false]
      rw [this]
    · have := nodeR_eta R.1 p
      simp only [if_true]
      rw [this]
  · rw [if_neg ht, if_neg ht]
    exact (if_neg (by decide)).symm
theorem fold0_dig (t : Tot) (i n : Nat) (path : List Tot) (ht : Dig t.2) (hp : ∀ x ∈ path, Dig x.2) : Dig (fold0 t i n path).1.2 := by
  unfold fold0
  split
  · exact foldP_dig _ _ _ ht hp
  · exact zeroD_dig
/-- A total, in a new block. -/
theorem store_new (X : World) (s : Int) (d : List Nat) (Y : World) (hY : Y = (X.alloc (.cells (totR 0 zeroD) 25)).setRow X.heap.size (totR s d)) : TotAt Y X.heap.size s d ∧ Below X.heap.size X Y ∧ Y.heap.size = X.heap.size + 1 := by
  subst hY
  exact ⟨(TotAt.new X 0 zeroD).setRow, below_setRow (below_more (Below.refl _ _) _) _ (Nat.le_refl _) _, by simp [World.setRow]⟩
set_option maxHeartbeats 4000000 in
set_option maxRecDepth 100000 in
theorem folded_one (t : Tot) (ht : Dig t.2) (i : Nat) (A : Option Addr) (c : Nat) (w : World) :
    Calls Tryd.prog 22 #[tV t, .int .i64 i, .int .i64 1, .slice A 0 c] w (fun e w' => e = .returned (tellU (fold0 t i 1 [])) ∧ Below w.heap.size w w') := by
  rw [fold0_one]
  have HT := aside ht
  clear ht
  by_cases hm : Mny t.1
  · rw [if_pos hm]
    have HM := aside hm
    clear hm
    go_enter Tryd.func22, Tryd.ntmps22
    go_upto_region 1 with fail
    change Code.wp _ _ _ _ ((w.alloc (.cells (totR t.1 t.2) 25)).alloc (.cells (totR 0 zeroD) 25))
    obtain ⟨t0, t1, b1, z1⟩ := pair_boxes w t.1 0 t.2 zeroD
    have T0 := aside t0
    have T1 := aside t1
    have B1 := aside b1
    clear t0 t1 b1 z1
    generalize ((w.alloc (.cells (totR t.1 t.2) 25)).alloc (.cells (totR 0 zeroD) 25)) = w1 at T0 T1 B1 ⊢
    obtain ⟨N, hN⟩ : ∃ N, N = w.heap.size := ⟨_, rfl⟩
    have EN := aside hN
    simp only [← hN] at T0 T1 ⊢
    clear hN
    have d0 := T0.out.sum
    go_wp2_with (first
      | (go_at_call 12; refine (money_yes t.1 HM.out _).mono ?_; rintro e w' ⟨rfl, hw'⟩; rw [hw']; clear hw' w')
      | (refine wpList_load_row rfl 25 (.tmp 4) rfl N rfl 25 (totR t.1 t.2) (0, 0) _ T0.out Tryd.underlying25 rfl (totInfo HT.out.1) ?_)
      | (refine wpList_store_row rfl 25 (.tmp 8) (.tmp 24) rfl (N + 1) (totR t.1 t.2) rfl rfl 25 (totR 0 zeroD) T1.out (totInfo HT.out.1) (tot_same rfl HT.out.1) (totR_one _ _) ?_)
      | fail)
    refine bodyPost_ret (results_cell_tmp rfl _ _ (N + 1) 25 (totR t.1 t.2) (0, 0) _ rfl (setRow_heap w1 (N + 1) _ _ _ _ T1.out) Tryd.underlying25 rfl (totInfo HT.out.1)) rfl ?_
    exact ⟨rfl, below_setRow B1.out _ (by rw [EN.out]; omega) _⟩
  · rw [if_neg hm]
    have HM := aside hm
    clear hm
    go_enter Tryd.func22, Tryd.ntmps22
    go_upto_region 1 with fail
    change Code.wp _ _ _ _ ((w.alloc (.cells (totR t.1 t.2) 25)).alloc (.cells (totR 0 zeroD) 25))
    obtain ⟨t0, t1, b1, z1⟩ := pair_boxes w t.1 0 t.2 zeroD
    have T0 := aside t0
    have T1 := aside t1
    have B1 := aside b1
    clear t0 t1 b1 z1
    generalize ((w.alloc (.cells (totR t.1 t.2) 25)).alloc (.cells (totR 0 zeroD) 25)) = w1 at T0 T1 B1 ⊢
    obtain ⟨N, hN⟩ : ∃ N, N = w.heap.size := ⟨_, rfl⟩
    have EN := aside hN
    simp only [← hN] at T0 T1 ⊢
    clear hN
    have d0 := T0.out.sum
    go_wp2_with (first
      | (go_at_call 12; refine (money_no t.1 HM.out _).mono ?_; rintro e w' ⟨rfl, hw'⟩; rw [hw']; clear hw' w')
      | (refine wpList_totz rfl rfl ?_)
      | (refine wpList_store_row rfl 25 (.tmp 8) (.tmp 23) rfl (N + 1) (totR 0 zeroD) rfl rfl 25 (totR 0 zeroD) T1.out (totInfo rfl) (tot_same rfl rfl) (totR_one _ _) ?_)
      | fail)
    refine bodyPost_ret (results_cell_tmp rfl _ _ (N + 1) 25 (totR 0 zeroD) (0, 0) _ rfl (setRow_heap w1 (N + 1) _ _ _ _ T1.out) Tryd.underlying25 rfl (totInfo rfl)) rfl ?_
    exact ⟨rfl, below_setRow B1.out _ (by rw [EN.out]; omega) _⟩

set_option maxHeartbeats 8000000 in
set_option maxRecDepth 100000 in
theorem folded_any : ∀ (f : Nat) (t : Tot) (_ : Dig t.2) (i n : Nat) (path : List Tot) (_ : ∀ x ∈ path, Dig x.2) (A : Option Addr) (m c : Nat) (w : World), n ≤ f → 1 ≤ n → n ≤ 256 → i < n → path.length = (way i n).length → m ≤ c → TSl w w.heap.size A m path →
    Calls Tryd.prog 22 #[tV t, .int .i64 i, .int .i64 n, .slice A m c] w (fun e w' => e = .returned (tellU (fold0 t i n path)) ∧ Below w.heap.size w w')
  | 0, _, _, _, _, _, _, _, _, _, _, hf, h1, _, _, _, _, _ => by omega
  | f + 1, t, ht, i, n, path, hp, A, m, c, w, hf, h1, hn, hi, hlen, hmc, h => by
    have hml := FSl.len totE_len (by decide) h
    by_cases e1 : n = 1
    · subst e1
      rw [way_one i 1 (Nat.le_refl _)] at hlen
      have : path = [] := List.eq_nil_of_length_eq_zero hlen
      subst this
      obtain rfl : m = 0 := hml.symm
      exact folded_one t ht i A c w
    have hh := half_lt (n := n) (by omega) hn
    obtain ⟨j, hj⟩ : ∃ j, j = if i < halfN n then i else i - halfN n := ⟨_, rfl⟩
    obtain ⟨q, hq⟩ : ∃ q, q = if i < halfN n then halfN n else n - halfN n := ⟨_, rfl⟩
    have hw := way_step i n (by omega) hn
    rw [← hj, ← hq] at hw
    rw [hw, List.length_cons] at hlen
    obtain ⟨rest, p, rfl⟩ : ∃ rest p, path = rest ++ [p] := by
      rcases List.eq_nil_or_concat path with h0 | ⟨r, p, h0⟩
      · subst h0; simp at hlen
      · exact ⟨r, p, by simpa using h0⟩
    have hr : rest.length = (way j q).length := by simpa using hlen
    have hstep := fold0_step t i n (by omega) hn rest p _ rfl j q hj hq hr
    obtain ⟨M, hM⟩ : ∃ M, M = rest.length := ⟨_, rfl⟩
    have hmM : m = M + 1 := by simp at hml; omega
    subst hmM
    obtain ⟨tb, to, hA, htb, htr, htd⟩ := TSl.at_ h hp (show M < M + 1 by omega)
    subst hA
    have hgp : (rest ++ [p]).getD M noTot = p := by rw [List.getD_eq_getElem?_getD, hM]; simp
    rw [hgp] at htr htd
    have hrest : TSl w w.heap.size (some ⟨tb, to, none⟩) M rest := by
      have := TSl.take h (k := M) (by omega)
      rwa [hM, List.take_left, ← hM] at this
    have hpr : ∀ x ∈ rest, Dig x.2 := fun x hx => hp x (List.mem_append_left _ hx)
    have hq1 : 1 ≤ q ∧ q ≤ f ∧ q ≤ 256 ∧ j < q := by
      rw [hj, hq]
      split <;> omega
    have HC : Hid (∀ w', TSl w' w'.heap.size (some ⟨tb, to, none⟩) M rest → Calls Tryd.prog 22 #[.agg (totR t.1 t.2), .int .i64 j, .int .i64 q, .slice (some ⟨tb, to, none⟩) M c] w' (fun e w'' => e = .returned (.tuple #[tV (fold0 t j q rest).1, .int .i64 (fold0 t j q rest).2]) ∧ Below w'.heap.size w' w'')) := aside (fun w' h' => folded_any f t ht j q rest hpr _ M c w' hq1.2.1 hq1.1 hq1.2.2.1 hq1.2.2.2 hr (by omega) h')
    have HDr := aside (fold0_dig t j q rest ht hpr)
    have hrd := hstep
    generalize fold0 t j q rest = r at HC HDr hrd hstep
    obtain ⟨u, er⟩ := r
    have HHalf := aside (rhalf_any n (by omega) hn)
    have HT := aside ht
    have HP := aside htd
    have HRest := aside hrest
    have HTr := aside htr
    have HStep := aside hrd
    have hMc : M ≤ c := by omega
    have hM9 : M ≤ 256 := by rw [hM, hr]; exact wayL_len _ _ _
    have ne1 : ((n : Int) == 1) = false := by simp only [beq_eq_false_iff_ne, ne_eq]; omega
    have hnb : (n : Int) ≤ 256 := by omega
    have hib : (i : Int) ≤ 256 := by omega
    clear hstep hrd htr htd hrest hpr hgp h hp hml hlen hw hr hM ht
    obtain ⟨k, hk⟩ : ∃ k, k = halfN n := ⟨_, rfl⟩
    rw [← hk] at HHalf hh hj hq HStep
    clear hk
    obtain ⟨k1, k2⟩ := hh
    by_cases hik : i < k
    · rw [if_pos hik] at hj hq
      subst hj hq
      have lt1 : ((j : Int) < (q : Int)) = True := by simp only [eq_iff_iff, iff_true]; omega
      simp only [decide_eq_true hik, if_true] at HStep
      clear hq1
      go_enter Tryd.func22, Tryd.ntmps22
      go_upto_region 1 with fail
      change Code.wp _ _ _ _ ((w.alloc (.cells (totR t.1 t.2) 25)).alloc (.cells (totR 0 zeroD) 25))
      obtain ⟨t0, t1, b1, z1⟩ := pair_boxes w t.1 0 t.2 zeroD
      have T0 := aside t0
      have T1 := aside t1
      have B1 := aside b1
      clear t0 t1 b1
      generalize ((w.alloc (.cells (totR t.1 t.2) 25)).alloc (.cells (totR 0 zeroD) 25)) = w1 at T0 T1 B1 z1 ⊢
      obtain ⟨N, hN⟩ : ∃ N, N = w.heap.size := ⟨_, rfl⟩
      have EN := aside hN
      simp only [← hN] at T0 T1 ⊢
      clear hN z1
      have HTr1 : Hid (w1.rangeAt tb (to + M * 33) (totL p.1 p.2)) := aside (fun j v hv => (B1.out.cell (p := ⟨tb, to + M * 33 + j, none⟩) htb).trans (HTr.out j v hv))
      have R1 := TotAt.new w1 0 zeroD
      go_upto_region 9 with (first
        | (go_at_call 25; refine (HHalf.out _).mono ?_; rintro e w' ⟨rfl, hw'⟩; rw [hw']; clear hw' w')
        | (refine wpList_load_mid rfl 25 (.tmp 31) rfl tb (to + M * 33) rfl (totL p.1 p.2) _ HTr1.out Tryd.underlying25 rfl (totLI HP.out.1) ?_)
        | (refine wpList_store_row rfl 25 (.tmp 11) (.tmp 32) rfl w1.heap.size (totR p.1 p.2) rfl rfl 25 (totR 0 zeroD) R1 (totInfo HP.out.1) (tot_same rfl HP.out.1) (totR_one _ _) ?_)
        | fail)
      change Code.wp _ _ _ _ ((w1.alloc (.cells (totR 0 zeroD) 25)).setRow w1.heap.size (totR p.1 p.2))
      obtain ⟨w2, hw2⟩ : ∃ w2, w2 = ((w1.alloc (.cells (totR 0 zeroD) 25)).setRow w1.heap.size (totR p.1 p.2)) := ⟨_, rfl⟩
      obtain ⟨t2, b2, -⟩ := store_new w1 p.1 p.2 w2 hw2
      rw [← hw2]
      have T02 : Hid (TotAt w2 N t.1 t.2) := aside (T0.out.below b2 T0.out.lt)
      have T12 : Hid (TotAt w2 (N + 1) 0 zeroD) := aside (T1.out.below b2 T1.out.lt)
      have T22 : Hid (TotAt w2 w1.heap.size p.1 p.2) := aside t2
      have HB2 : Hid (Below w.heap.size w w2) := aside (B1.out.trans (b2.mono B1.out.size))
      obtain ⟨P, hP⟩ : ∃ P, P = w1.heap.size := ⟨_, rfl⟩
      rw [← hP] at T22 ⊢
      clear R1 HTr1 T0 T1 b2 t2 hw2 hP B1
      go_upto_region 10 with (first
        | (refine wpList_load_row rfl 25 (.tmp 4) rfl N rfl 25 (totR t.1 t.2) (0, 0) _ T02.out Tryd.underlying25 rfl (totInfo HT.out.1) ?_)
        | (go_at_call 22; refine (HC.out w2 ((Sl.below HRest.out HB2.out).more HB2.out.size)).mono ?_; rintro e w3 ⟨rfl, hb3⟩; have HB3 : Hid (Below w2.heap.size w2 w3) := aside hb3; have R3 := TotAt.new w3 0 zeroD; clear hb3)
        | (refine wpList_store_row rfl 25 (.tmp 13) (.tmp 47) rfl w3.heap.size (totR u.1 u.2) rfl rfl 25 (totR 0 zeroD) R3 (totInfo HDr.out.1) (tot_same rfl HDr.out.1) (totR_one _ _) ?_)
        | fail)
      change Code.wp _ _ _ _ ((w3.alloc (.cells (totR 0 zeroD) 25)).setRow w3.heap.size (totR u.1 u.2))
      obtain ⟨w4, hw4⟩ : ∃ w4, w4 = ((w3.alloc (.cells (totR 0 zeroD) 25)).setRow w3.heap.size (totR u.1 u.2)) := ⟨_, rfl⟩
      obtain ⟨t4, b4, -⟩ := store_new w3 u.1 u.2 w4 hw4
      rw [← hw4]
      have b24 : Below w2.heap.size w2 w4 := HB3.out.trans (b4.mono HB3.out.size)
      have T14 : Hid (TotAt w4 (N + 1) 0 zeroD) := aside (T12.out.below b24 T12.out.lt)
      have T24 : Hid (TotAt w4 P p.1 p.2) := aside (T22.out.below b24 T22.out.lt)
      have T34 : Hid (TotAt w4 w3.heap.size u.1 u.2) := aside t4
      have HB4 : Hid (Below w.heap.size w w4) := aside (HB2.out.trans (b24.mono HB2.out.size))
      obtain ⟨R, hR⟩ : ∃ R, R = w3.heap.size := ⟨_, rfl⟩
      rw [← hR] at T34 ⊢
      clear R3 T02 T12 T22 t4 b4 b24 hw4 hR HB3
      by_cases he : er = 0
      · subst he
        have hs := HStep.out
        rw [if_pos rfl] at hs
        have HN := aside (fun w => rnode_any u p HDr.out HP.out w)
        have hdz := nodeR_dig u p
        rw [← hs] at HN hdz
        obtain ⟨⟨z, s⟩, hz⟩ : ∃ r, r = fold0 t j n (rest ++ [p]) := ⟨_, rfl⟩
        rw [← hz] at HN hdz
        have HF := aside hz.symm
        clear hz
        have HDz : Hid (Dig z.2) := aside hdz
        have HN2 : Hid (∀ w, Calls Tryd.prog 16 #[.agg (totR u.1 u.2), .agg (totR p.1 p.2)] w (fun e w' => e = .returned (.tuple #[tV z, .int .i64 s]) ∧ Below w.heap.size w w')) := aside HN.out
        clear hs hdz HN HStep
        go_wp2_with (first
          | (refine wpList_load_row rfl 25 (.tmp 13) rfl R rfl 25 (totR u.1 u.2) (0, 0) _ T34.out Tryd.underlying25 rfl (totInfo HDr.out.1) ?_)
          | (refine wpList_load_row rfl 25 (.tmp 11) rfl P rfl 25 (totR p.1 p.2) (0, 0) _ T24.out Tryd.underlying25 rfl (totInfo HP.out.1) ?_)
          | (go_at_call 16; refine (HN2.out w4).mono ?_; rintro e w5 ⟨rfl, hb5⟩; have HB5 : Hid (Below w.heap.size w w5) := aside (HB4.out.trans (hb5.mono HB4.out.size)); have T15 : Hid (TotAt w5 (N + 1) 0 zeroD) := aside (T14.out.below hb5 T14.out.lt); clear hb5)
          | (refine wpList_store_row rfl 25 (.tmp 8) (.tmp 56) rfl (N + 1) (totR z.1 z.2) rfl rfl 25 (totR 0 zeroD) T15.out (totInfo HDz.out.1) (tot_same rfl HDz.out.1) (totR_one _ _) ?_)
          | fail)
        refine bodyPost_ret (results_cell_tmp rfl _ _ (N + 1) 25 (totR z.1 z.2) (0, 0) _ rfl (setRow_heap w5 (N + 1) _ _ _ _ T15.out) Tryd.underlying25 rfl (totInfo HDz.out.1)) rfl ?_
        exact ⟨by rw [HF.out]; rfl, below_setRow HB5.out _ (by rw [EN.out]; omega) _⟩
      · have hs := HStep.out
        rw [if_neg he] at hs
        have HF := aside hs
        have ne2 : (er != 0) = true := by simpa using he
        clear hs HStep he
        go_wp2_with (first
          | (refine wpList_totz rfl rfl ?_)
          | (refine wpList_store_row rfl 25 (.tmp 8) (.tmp 51) rfl (N + 1) (totR 0 zeroD) rfl rfl 25 (totR 0 zeroD) T14.out (totInfo rfl) (tot_same rfl rfl) (totR_one _ _) ?_)
          | fail)
        refine bodyPost_ret (results_cell_tmp rfl _ _ (N + 1) 25 (totR 0 zeroD) (0, 0) _ rfl (setRow_heap w4 (N + 1) _ _ _ _ T14.out) Tryd.underlying25 rfl (totInfo rfl)) rfl ?_
        exact ⟨by rw [HF.out]; rfl, below_setRow HB4.out _ (by rw [EN.out]; omega) _⟩
    · rw [if_neg hik] at hj hq
      have lt1 : ((i : Int) < (k : Int)) = False := by simp only [eq_iff_iff, iff_false]; omega
      have ej : (i : Int) - (k : Int) = (j : Int) := by omega
      have eq : (n : Int) - (k : Int) = (q : Int) := by omega
      simp only [decide_eq_false hik, Bool.false_eq_true, if_false] at HStep
      clear hq1 hj hq hik
      go_enter Tryd.func22, Tryd.ntmps22
      go_upto_region 1 with fail
      change Code.wp _ _ _ _ ((w.alloc (.cells (totR t.1 t.2) 25)).alloc (.cells (totR 0 zeroD) 25))
      obtain ⟨t0, t1, b1, z1⟩ := pair_boxes w t.1 0 t.2 zeroD
      have T0 := aside t0
      have T1 := aside t1
      have B1 := aside b1
      clear t0 t1 b1
      generalize ((w.alloc (.cells (totR t.1 t.2) 25)).alloc (.cells (totR 0 zeroD) 25)) = w1 at T0 T1 B1 z1 ⊢
      obtain ⟨N, hN⟩ : ∃ N, N = w.heap.size := ⟨_, rfl⟩
      have EN := aside hN
      simp only [← hN] at T0 T1 ⊢
      clear hN z1
      have HTr1 : Hid (w1.rangeAt tb (to + M * 33) (totL p.1 p.2)) := aside (fun j v hv => (B1.out.cell (p := ⟨tb, to + M * 33 + j, none⟩) htb).trans (HTr.out j v hv))
      have R1 := TotAt.new w1 0 zeroD
      go_upto_region 13 with (first
        | (go_at_call 25; refine (HHalf.out _).mono ?_; rintro e w' ⟨rfl, hw'⟩; rw [hw']; clear hw' w')
        | (refine wpList_load_mid rfl 25 (.tmp 31) rfl tb (to + M * 33) rfl (totL p.1 p.2) _ HTr1.out Tryd.underlying25 rfl (totLI HP.out.1) ?_)
        | (refine wpList_store_row rfl 25 (.tmp 11) (.tmp 32) rfl w1.heap.size (totR p.1 p.2) rfl rfl 25 (totR 0 zeroD) R1 (totInfo HP.out.1) (tot_same rfl HP.out.1) (totR_one _ _) ?_)
        | fail)
      change Code.wp _ _ _ _ ((w1.alloc (.cells (totR 0 zeroD) 25)).setRow w1.heap.size (totR p.1 p.2))
      obtain ⟨w2, hw2⟩ : ∃ w2, w2 = ((w1.alloc (.cells (totR 0 zeroD) 25)).setRow w1.heap.size (totR p.1 p.2)) := ⟨_, rfl⟩
      obtain ⟨t2, b2, -⟩ := store_new w1 p.1 p.2 w2 hw2
      rw [← hw2]
      have T02 : Hid (TotAt w2 N t.1 t.2) := aside (T0.out.below b2 T0.out.lt)
      have T12 : Hid (TotAt w2 (N + 1) 0 zeroD) := aside (T1.out.below b2 T1.out.lt)
      have T22 : Hid (TotAt w2 w1.heap.size p.1 p.2) := aside t2
      have HB2 : Hid (Below w.heap.size w w2) := aside (B1.out.trans (b2.mono B1.out.size))
      obtain ⟨P, hP⟩ : ∃ P, P = w1.heap.size := ⟨_, rfl⟩
      rw [← hP] at T22 ⊢
      clear R1 HTr1 T0 T1 b2 t2 hw2 hP B1
      go_upto_region 14 with (first
        | (refine wpList_load_row rfl 25 (.tmp 4) rfl N rfl 25 (totR t.1 t.2) (0, 0) _ T02.out Tryd.underlying25 rfl (totInfo HT.out.1) ?_)
        | (go_at_call 22; refine (HC.out w2 ((Sl.below HRest.out HB2.out).more HB2.out.size)).mono ?_; rintro e w3 ⟨rfl, hb3⟩; have HB3 : Hid (Below w2.heap.size w2 w3) := aside hb3; have R3 := TotAt.new w3 0 zeroD; clear hb3)
        | (refine wpList_store_row rfl 25 (.tmp 15) (.tmp 68) rfl w3.heap.size (totR u.1 u.2) rfl rfl 25 (totR 0 zeroD) R3 (totInfo HDr.out.1) (tot_same rfl HDr.out.1) (totR_one _ _) ?_)
        | fail)
      change Code.wp _ _ _ _ ((w3.alloc (.cells (totR 0 zeroD) 25)).setRow w3.heap.size (totR u.1 u.2))
      obtain ⟨w4, hw4⟩ : ∃ w4, w4 = ((w3.alloc (.cells (totR 0 zeroD) 25)).setRow w3.heap.size (totR u.1 u.2)) := ⟨_, rfl⟩
      obtain ⟨t4, b4, -⟩ := store_new w3 u.1 u.2 w4 hw4
      rw [← hw4]
      have b24 : Below w2.heap.size w2 w4 := HB3.out.trans (b4.mono HB3.out.size)
      have T14 : Hid (TotAt w4 (N + 1) 0 zeroD) := aside (T12.out.below b24 T12.out.lt)
      have T24 : Hid (TotAt w4 P p.1 p.2) := aside (T22.out.below b24 T22.out.lt)
      have T34 : Hid (TotAt w4 w3.heap.size u.1 u.2) := aside t4
      have HB4 : Hid (Below w.heap.size w w4) := aside (HB2.out.trans (b24.mono HB2.out.size))
      obtain ⟨R, hR⟩ : ∃ R, R = w3.heap.size := ⟨_, rfl⟩
      rw [← hR] at T34 ⊢
      clear R3 T02 T12 T22 t4 b4 b24 hw4 hR HB3
      by_cases he : er = 0
      · subst he
        have hs := HStep.out
        rw [if_pos rfl] at hs
        have HN := aside (fun w => rnode_any p u HP.out HDr.out w)
        have hdz := nodeR_dig p u
        rw [← hs] at HN hdz
        obtain ⟨⟨z, s⟩, hz⟩ : ∃ r, r = fold0 t i n (rest ++ [p]) := ⟨_, rfl⟩
        rw [← hz] at HN hdz
        have HF := aside hz.symm
        clear hz
        have HDz : Hid (Dig z.2) := aside hdz
        have HN2 : Hid (∀ w, Calls Tryd.prog 16 #[.agg (totR p.1 p.2), .agg (totR u.1 u.2)] w (fun e w' => e = .returned (.tuple #[tV z, .int .i64 s]) ∧ Below w.heap.size w w')) := aside HN.out
        clear hs hdz HN HStep
        go_wp2_with (first
          | (refine wpList_load_row rfl 25 (.tmp 15) rfl R rfl 25 (totR u.1 u.2) (0, 0) _ T34.out Tryd.underlying25 rfl (totInfo HDr.out.1) ?_)
          | (refine wpList_load_row rfl 25 (.tmp 11) rfl P rfl 25 (totR p.1 p.2) (0, 0) _ T24.out Tryd.underlying25 rfl (totInfo HP.out.1) ?_)
          | (go_at_call 16; refine (HN2.out w4).mono ?_; rintro e w5 ⟨rfl, hb5⟩; have HB5 : Hid (Below w.heap.size w w5) := aside (HB4.out.trans (hb5.mono HB4.out.size)); have T15 : Hid (TotAt w5 (N + 1) 0 zeroD) := aside (T14.out.below hb5 T14.out.lt); clear hb5)
          | (refine wpList_store_row rfl 25 (.tmp 8) (.tmp 77) rfl (N + 1) (totR z.1 z.2) rfl rfl 25 (totR 0 zeroD) T15.out (totInfo HDz.out.1) (tot_same rfl HDz.out.1) (totR_one _ _) ?_)
          | fail)
        refine bodyPost_ret (results_cell_tmp rfl _ _ (N + 1) 25 (totR z.1 z.2) (0, 0) _ rfl (setRow_heap w5 (N + 1) _ _ _ _ T15.out) Tryd.underlying25 rfl (totInfo HDz.out.1)) rfl ?_
        exact ⟨by rw [HF.out]; rfl, below_setRow HB5.out _ (by rw [EN.out]; omega) _⟩
      · have hs := HStep.out
        rw [if_neg he] at hs
        have HF := aside hs
        have ne2 : (er != 0) = true := by simpa using he
        clear hs HStep he
        go_wp2_with (first
          | (refine wpList_totz rfl rfl ?_)
          | (refine wpList_store_row rfl 25 (.tmp 8) (.tmp 72) rfl (N + 1) (totR 0 zeroD) rfl rfl 25 (totR 0 zeroD) T14.out (totInfo rfl) (tot_same rfl rfl) (totR_one _ _) ?_)
          | fail)
        refine bodyPost_ret (results_cell_tmp rfl _ _ (N + 1) 25 (totR 0 zeroD) (0, 0) _ rfl (setRow_heap w4 (N + 1) _ _ _ _ T14.out) Tryd.underlying25 rfl (totInfo rfl)) rfl ?_
        exact ⟨by rw [HF.out]; rfl, below_setRow HB4.out _ (by rw [EN.out]; omega) _⟩
end Go.Proofs.YtkpbhbafapdboaaDoor
