/- The reference's leaf, the length of a way, the root of all: the walk. Conditions: named in each theorem. -/
import Derived.Test.YtkpbhbafapdboaaDoorRefI
import Derived.Test.YtkpbhbafapdboaaDoorAudE
import Derived.Test.YtkpbhbafapdboaaDoorAudJ
namespace Go.Proofs.YtkpbhbafapdboaaDoor
open Go.RowKit Go.ChangeShapes Go.WideShapes Go.ChangeAt

set_option maxHeartbeats 4000000 in
set_option maxRecDepth 100000 in
theorem rleaf_any (nm : List Nat) (n : Nat) (hd : Dig nm) (hn : n ≤ 1125899906842624) (w : World) :
    Calls Tryd.prog 13 #[digV nm, .int .i64 n] w (fun e w' => e = .returned (totV n (shaL (leafT nm n))) ∧ Below w.heap.size w w') := by
  have HD := aside hd
  have HL := aside (leafT_len (n := n) hd)
  have HSm := aside (leafT_small (n := n) hd)
  have Hn := aside (ones nm)
  have Hs := aside (ones (sizeL n))
  have hn63 : n < 9223372036854775808 := by omega
  clear hd
  go_enter Tryd.func13, Tryd.ntmps13
  go_upto_region 1 with fail
  change Code.wp _ _ _ _ ((w.alloc (.cells (rowY nm) 23)).alloc (.cells (totR 0 zeroD) 25))
  have T0 : Hid (DigAt ((w.alloc (.cells (rowY nm) 23)).alloc (.cells (totR 0 zeroD) 25)) w.heap.size nm) := aside ((heap_alloc_old _ _ (by simp)).trans (heap_alloc_new _ _))
  have T2 : Hid (TotAt ((w.alloc (.cells (rowY nm) 23)).alloc (.cells (totR 0 zeroD) 25)) (w.heap.size + 1) 0 zeroD) := aside (by
    have h := TotAt.new (w.alloc (.cells (rowY nm) 23)) 0 zeroD
    rwa [show (w.alloc (.cells (rowY nm) 23)).heap.size = w.heap.size + 1 by simp] at h)
  have B1 : Hid (Below w.heap.size w ((w.alloc (.cells (rowY nm) 23)).alloc (.cells (totR 0 zeroD) 25))) := aside (((Below.refl _ _).alloc (Nat.le_refl _) _).alloc (by simp) _)
  generalize ((w.alloc (.cells (rowY nm) 23)).alloc (.cells (totR 0 zeroD) 25)) = w1 at T0 T2 B1 ⊢
  obtain ⟨N, hN⟩ : ∃ N, N = w.heap.size := ⟨_, rfl⟩
  have EN := aside hN
  simp only [← hN] at T0 T2 ⊢
  clear hN
  have HYn : Hid (YSl (w1.alloc (.cells #[.int .u8 25] 5)) (w1.alloc (.cells #[.int .u8 25] 5)).heap.size (some ⟨N, 0, none⟩) 32 nm) := aside ((T0.out.dig HD.out.1).behind _)
  go_upto_region 2 with (first
    | (at_builtin; refine wpList_concat rfl (.tmp 6) (.tmp 7) 59 rfl w1.heap.size (.int .u8 0) 1 1 Tryd.underlying59 byteInfo rfl (by decide) _ 1 _ rfl (row_one w1 25) (w1.alloc (.cells #[.int .u8 25] 5)).heap.size _ 32 32 _ rfl HYn.out Hn.out (by omega) (by unfold maxLen; omega) (by simp) ?_; intro G3 c3 w3 hc3 hc3' hown hb3 hg3; have HO3 : Hid (YRow w3 w1.heap.size (.slice G3 (1 + 32) c3) (1 + 32) ([25] ++ nm)) := aside (yrow_concat rfl hown); have HB3 : Hid (Below w1.heap.size w1 w3) := aside ((below_more (Below.refl _ _) _).trans hb3); clear hown hb3 hg3)
    | fail)
  have T23 : Hid (TotAt w3 (N + 1) 0 zeroD) := aside (T2.out.below HB3.out T2.out.lt)
  have HBw3 : Hid (Below w.heap.size w w3) := aside (B1.out.trans (HB3.out.mono B1.out.size))
  have hw13 : w1.heap.size ≤ w3.heap.size := HB3.out.size
  obtain ⟨base, hbase⟩ : ∃ base, base = w1.heap.size := ⟨_, rfl⟩
  have hNb : N + 1 < w1.heap.size := T2.out.lt
  have hwb : w.heap.size ≤ w1.heap.size := B1.out.size
  rw [← hbase] at HO3 hw13 hNb hwb
  clear HYn T0 T2 B1 HB3 hbase
  go_wp2_with (first
    | (go_at_call 30; refine (sbytes_any n hn63 _).mono ?_; rintro e w4 ⟨G4, m4, c4, rfl, hy4, hb4⟩; have hm4 : m4 ≤ 9 := (by have := (sizeL_len n).1; have := YSl.len1 hy4; omega); have HY4 := aside hy4; have HO4 : Hid (YRow w4 base (.slice G3 (1 + 32) c3) (1 + 32) ([25] ++ nm)) := aside (own_below HO3.out hb4); have HB4 : Hid (Below w.heap.size w w4) := aside (HBw3.out.trans (hb4.mono HBw3.out.size)); have T24 : Hid (TotAt w4 (N + 1) 0 zeroD) := aside (T23.out.below hb4 T23.out.lt); have hw4 : base ≤ w4.heap.size := Nat.le_trans hw13 hb4.size; clear hy4 hb4)
    | (at_builtin; refine wpList_concat rfl (.tmp 10) (.tmp 12) 59 rfl base (.int .u8 0) 1 1 Tryd.underlying59 byteInfo rfl (by decide) _ (1 + 32) _ rfl HO4.out w4.heap.size G4 m4 c4 _ rfl HY4.out Hs.out (by omega) (by unfold maxLen; omega) hw4 ?_; intro G5 c5 w5 hc5 hc5' hown hb5 hg5; have HO5 : Hid (YRow w5 base (.slice G5 (1 + 32 + m4) c5) (1 + 32 + m4) (leafT nm n)) := aside (yrow_concat (bs := [25] ++ nm) (cs := sizeL n) rfl hown); have T25 : Hid (TotAt w5 (N + 1) 0 zeroD) := aside (T24.out.below hb5 hNb); have HB5 : Hid (Below w.heap.size w w5) := aside (HB4.out.trans (hb5.mono hwb)); clear hown hb5 hg5)
    | (go_at_call 29; refine (rsum_any (leafT nm n) G5 (1 + 32 + m4) c5 w5 (Sl.own HO5.out) (by omega) HSm.out).mono ?_; rintro e w6 ⟨rfl, hb6⟩; have HB6 : Hid (Below w.heap.size w w6) := aside (below_then HB5.out hb6); have T26 : Hid (TotAt w6 (N + 1) 0 zeroD) := aside (T25.out.below hb6 T25.out.lt); clear hb6)
    | (refine wpList_tot rfl (.tmp 9) (.tmp 14) rfl n (shaL (leafT nm n)) rfl rfl (shaL_len _) ?_)
    | (refine wpList_store_row rfl 25 (.tmp 4) (.tmp 15) rfl (N + 1) (totR n (shaL (leafT nm n))) rfl rfl 25 (totR 0 zeroD) T26.out (totInfo (shaL_len _)) (tot_same rfl (shaL_len _)) (totR_one _ _) ?_)
    | fail)
  refine bodyPost_ret (results_cell_row rfl _ _ (N + 1) 25 (totR n (shaL (leafT nm n))) (0, 0) _ rfl (setRow_heap w6 (N + 1) _ _ _ _ T26.out) Tryd.underlying25 rfl (totInfo (shaL_len _))) rfl ?_
  exact ⟨rfl, below_setRow HB6.out _ (by rw [EN.out]; omega) _⟩
set_option maxHeartbeats 1000000 in
theorem long_any : ∀ (f i n : Nat), n ≤ f → 1 ≤ n → n ≤ 256 → i < n → ∀ (w : World), Calls Tryd.prog 21 #[.int .i64 i, .int .i64 n] w (fun e w' => e = .returned (.int .i64 ((way i n).length : Nat)) ∧ w' = w)
  | 0, _, _, hf, h1, _, _, _ => by omega
  | f + 1, i, n, hf, h1, hn, hi, w => by
    by_cases e1 : n = 1
    · subst e1
      rw [way_one i 1 (Nat.le_refl _)]
      go_enter Tryd.func21, Tryd.ntmps21
      go_wp2_with fail
      go_ret
      exact ⟨rfl, rfl⟩
    · have hh := half_lt (n := n) (by omega) hn
      have HW : Hid ((way i n).length = 1 + (way (if i < halfN n then i else i - halfN n) (if i < halfN n then halfN n else n - halfN n)).length) := aside (by rw [way_step i n (by omega) hn, List.length_cons, Nat.add_comm])
      have HHalf := aside (rhalf_any n (by omega) hn)
      have ih := long_any f
      generalize halfN n = k at hh HW HHalf
      have ne1 : ((n : Int) == 1) = false := by simp only [beq_eq_false_iff_ne, ne_eq]; omega
      have hib : (i : Int) ≤ 256 := by omega
      have hnb : (n : Int) ≤ 256 := by omega
      by_cases ci : i < k
      · have HC := aside (fun w => ih i k (by omega) hh.1 (by omega) ci w)
        rw [if_pos ci, if_pos ci] at HW
        have hl : (way i k).length ≤ 256 := wayL_len _ _ _
        generalize (way i k).length = q at HW HC hl
        have lt1 : ((i : Int) < (k : Int)) = True := by simp only [eq_iff_iff, iff_true]; omega
        clear ih ci hh hi
        go_enter Tryd.func21, Tryd.ntmps21
        go_wp2_with (first
          | (go_at_call 25; refine (HHalf.out _).mono ?_; rintro e w' ⟨rfl, hw'⟩; rw [hw']; clear hw' w')
          | (go_at_call 21; refine (HC.out _).mono ?_; rintro e w' ⟨rfl, hw'⟩; rw [hw']; clear hw' w')
          | fail)
        go_ret
        exact ⟨by rw [HW.out]; go_num, rfl⟩
      · obtain ⟨ik, hik⟩ : ∃ ik, ik = i - k := ⟨_, rfl⟩
        obtain ⟨nk, hnk⟩ : ∃ nk, nk = n - k := ⟨_, rfl⟩
        have HC := aside (fun w => ih ik nk (by omega) (by omega) (by omega) (by omega) w)
        rw [if_neg ci, if_neg ci, ← hik, ← hnk] at HW
        have hl : (way ik nk).length ≤ 256 := wayL_len _ _ _
        generalize (way ik nk).length = q at HW HC hl
        have lt1 : ((i : Int) < (k : Int)) = False := by simp only [eq_iff_iff, iff_false]; omega
        have e2 : (i : Int) - (k : Int) = (ik : Int) := by omega
        have e3 : (n : Int) - (k : Int) = (nk : Int) := by omega
        have hkb : (k : Int) ≤ 256 := by omega
        clear ih ci hh hi hik hnk
        go_enter Tryd.func21, Tryd.ntmps21
        go_wp2_with (first
          | (go_at_call 25; refine (HHalf.out _).mono ?_; rintro e w' ⟨rfl, hw'⟩; rw [hw']; clear hw' w')
          | (go_at_call 21; refine (HC.out _).mono ?_; rintro e w' ⟨rfl, hw'⟩; rw [hw']; clear hw' w')
          | fail)
        go_ret
        exact ⟨by rw [HW.out]; go_num, rfl⟩
set_option maxHeartbeats 4000000 in
set_option maxRecDepth 100000 in
theorem rroot_any : ∀ (f : Nat) (ts : List Tot), ts.length < f → ts.length ≤ 256 → (∀ t ∈ ts, Dig t.2) → ∀ (A : Option Addr) (n c : Nat) (w : World), n ≤ c → TSl w w.heap.size A n ts →
    Calls Tryd.prog 18 #[.slice A n c] w (fun e w' => e = .returned (tellU (rootF f ts)) ∧ Below w.heap.size w w')
  | 0, ts, h, _, _, _, _, _, _, _, _ => absurd h (Nat.not_lt_zero _)
  | f + 1, ts, hlf, hl256, hd, A, n, c, w, hnc, h => by
    have ih := rroot_any f
    have hln := FSl.len totE_len (by decide) h
    have HD := aside hd
    have HSl := aside h
    have HI := aside ih
    have hn256 : n ≤ 256 := by omega
    clear ih hd h
    by_cases h0 : n = 0
    · subst h0
      have hR : rootF (f + 1) ts = ((0, shaL []), 0) := by
        unfold rootF
        rw [if_pos hln]
      rw [hR]
      clear hR HI hnc hlf hl256 hn256
      go_enter Tryd.func18, Tryd.ntmps18
      go_upto_region 1 with fail
      change Code.wp _ _ _ _ (w.alloc (.cells (totR 0 zeroD) 25))
      have TZ : Hid (TotAt (w.alloc (.cells (totR 0 zeroD) 25)) w.heap.size 0 zeroD) := aside (TotAt.new w _ _)
      have hB1 : Below w.heap.size w (w.alloc (.cells (totR 0 zeroD) 25)) := below_more (Below.refl _ _) _
      generalize w.alloc (.cells (totR 0 zeroD) 25) = w1 at TZ hB1 ⊢
      have HB1 := aside hB1
      clear hB1
      go_wp2_with (first
        | (go_at_call 29; refine (rsum_any [] none 0 0 w1 Sl.nil_ (by decide) (fun x hx => by simp at hx)).mono ?_; rintro e w2 ⟨rfl, hb2⟩; have HB2 := aside (HB1.out.trans (hb2.mono HB1.out.size)); have TZ2 : Hid (TotAt w2 w.heap.size 0 zeroD) := aside (TZ.out.below hb2 TZ.out.lt); clear hb2)
        | (refine wpList_tot1 rfl (.tmp 11) rfl (shaL []) rfl (shaL_len _) ?_)
        | (refine wpList_store_row rfl 25 (.tmp 2) (.tmp 12) rfl w.heap.size (totR 0 (shaL [])) rfl rfl 25 (totR 0 zeroD) TZ2.out (totInfo (shaL_len _)) (tot_same rfl (shaL_len _)) (totR_one _ _) ?_)
        | fail)
      refine bodyPost_ret (results_cell_tmp rfl _ _ w.heap.size 25 (totR 0 (shaL [])) (0, 0) _ rfl (setRow_heap w2 w.heap.size _ _ _ _ TZ2.out) Tryd.underlying25 rfl (totInfo (shaL_len _))) rfl ?_
      exact ⟨rfl, below_setRow HB2.out _ (Nat.le_refl _) _⟩
    have e0 : ((n : Int) == 0) = false := by simp; omega
    by_cases h1 : n = 1
    · subst h1
      obtain ⟨tb, to, hA, htb, htr, htd⟩ := TSl.at_ HSl.out HD.out (show 0 < 1 by decide)
      subst hA
      have hR : rootF (f + 1) ts = if Mny (ts.getD 0 noTot).1 then (ts.getD 0 noTot, 0) else (noTot, 2) := by
        unfold rootF
        rw [if_neg (by omega), if_pos hln]
      rw [hR]
      clear hR HI hnc hlf hl256 hn256
      generalize ts.getD 0 noTot = t at htr htd ⊢
      rw [Nat.zero_mul, Nat.add_zero] at htr
      have hc0 : w.cell? ⟨tb, to, none⟩ = some (.int .i64 t.1) := htr 0 _ rfl
      have HTd := aside htd
      clear htd
      by_cases hm : Mny t.1
      · rw [if_pos hm]
        have HM := aside hm
        clear hm
        go_enter Tryd.func18, Tryd.ntmps18
        go_upto_region 1 with fail
        change Code.wp _ _ _ _ (w.alloc (.cells (totR 0 zeroD) 25))
        have TZ : Hid (TotAt (w.alloc (.cells (totR 0 zeroD) 25)) w.heap.size 0 zeroD) := aside (TotAt.new w _ _)
        have hB1 : Below w.heap.size w (w.alloc (.cells (totR 0 zeroD) 25)) := below_more (Below.refl _ _) _
        have hc1 : (w.alloc (.cells (totR 0 zeroD) 25)).cell? ⟨tb, to, none⟩ = some (.int .i64 t.1) := (hB1.cell (p := ⟨tb, to, none⟩) htb).trans hc0
        have Hr1 : Hid ((w.alloc (.cells (totR 0 zeroD) 25)).rangeAt tb to (totL t.1 t.2)) := aside (fun j v hv => (hB1.cell (p := ⟨tb, to + j, none⟩) htb).trans (htr j v hv))
        generalize w.alloc (.cells (totR 0 zeroD) 25) = w1 at TZ hB1 hc1 Hr1 ⊢
        have HB1 := aside hB1
        clear hB1 hc0 htr
        go_wp2_with (first
          | (go_at_call 12; refine (money_yes t.1 HM.out _).mono ?_; rintro e w' ⟨rfl, hw'⟩; rw [hw']; clear hw' w')
          | (refine wpList_load_mid rfl 25 (.tmp 24) rfl tb to rfl (totL t.1 t.2) _ Hr1.out Tryd.underlying25 rfl (totLI HTd.out.1) ?_)
          | (refine wpList_store_row rfl 25 (.tmp 2) (.tmp 25) rfl w.heap.size (totR t.1 t.2) rfl rfl 25 (totR 0 zeroD) TZ.out (totInfo HTd.out.1) (tot_same rfl HTd.out.1) (totR_one _ _) ?_)
          | fail)
        refine bodyPost_ret (results_cell_tmp rfl _ _ w.heap.size 25 (totR t.1 t.2) (0, 0) _ rfl (setRow_heap w1 w.heap.size _ _ _ _ TZ.out) Tryd.underlying25 rfl (totInfo HTd.out.1)) rfl ?_
        exact ⟨rfl, below_setRow HB1.out _ (Nat.le_refl _) _⟩
      · rw [if_neg hm]
        have HM := aside hm
        clear hm
        go_enter Tryd.func18, Tryd.ntmps18
        go_upto_region 1 with fail
        change Code.wp _ _ _ _ (w.alloc (.cells (totR 0 zeroD) 25))
        have TZ : Hid (TotAt (w.alloc (.cells (totR 0 zeroD) 25)) w.heap.size 0 zeroD) := aside (TotAt.new w _ _)
        have hB1 : Below w.heap.size w (w.alloc (.cells (totR 0 zeroD) 25)) := below_more (Below.refl _ _) _
        have hc1 : (w.alloc (.cells (totR 0 zeroD) 25)).cell? ⟨tb, to, none⟩ = some (.int .i64 t.1) := (hB1.cell (p := ⟨tb, to, none⟩) htb).trans hc0
        generalize w.alloc (.cells (totR 0 zeroD) 25) = w1 at TZ hB1 hc1 ⊢
        have HB1 := aside hB1
        clear hB1 hc0 htr
        go_wp2_with (first
          | (go_at_call 12; refine (money_no t.1 HM.out _).mono ?_; rintro e w' ⟨rfl, hw'⟩; rw [hw']; clear hw' w')
          | (refine wpList_totz rfl rfl ?_)
          | (refine wpList_store_row rfl 25 (.tmp 2) (.tmp 22) rfl w.heap.size (totR 0 zeroD) rfl rfl 25 (totR 0 zeroD) TZ.out (totInfo rfl) (tot_same rfl rfl) (totR_one _ _) ?_)
          | fail)
        refine bodyPost_ret (results_cell_tmp rfl _ _ w.heap.size 25 (totR 0 zeroD) (0, 0) _ rfl (setRow_heap w1 w.heap.size _ _ _ _ TZ.out) Tryd.underlying25 rfl (totInfo rfl)) rfl ?_
        exact ⟨rfl, below_setRow HB1.out _ (Nat.le_refl _) _⟩
    have e1 : ((n : Int) == 1) = false := by simp; omega
    obtain ⟨tb, to, hA, htb, -, -⟩ := TSl.at_ HSl.out HD.out (show 0 < n by omega)
    subst hA
    have hh := half_lt (n := n) (by omega) hn256
    have HHalf := aside (rhalf_any n (by omega) hn256)
    have HR : Hid (rootF (f + 1) ts = if (rootF f (ts.take (halfN n))).2 ≠ 0 then (noTot, (rootF f (ts.take (halfN n))).2) else if (rootF f (ts.drop (halfN n))).2 ≠ 0 then (noTot, (rootF f (ts.drop (halfN n))).2) else nodeR (rootF f (ts.take (halfN n))).1 (rootF f (ts.drop (halfN n))).1) := aside (by
      conv => lhs; unfold rootF
      rw [if_neg (by omega), if_neg (by omega), hln])
    generalize halfN n = k at hh HHalf HR
    obtain ⟨k1, k2⟩ := hh
    have HL1 : Hid (TSl w w.heap.size (some ⟨tb, to, none⟩) k (ts.take k)) := aside (HSl.out.take (Nat.le_of_lt k2))
    have HL2 : Hid (TSl w w.heap.size (some ⟨tb, to + k * 33, none⟩) (n - k) (ts.drop k)) := aside (HSl.out.drop k2)
    have HC1 : Hid (∀ w', TSl w' w'.heap.size (some ⟨tb, to, none⟩) k (ts.take k) → Calls Tryd.prog 18 #[.slice (some ⟨tb, to, none⟩) k c] w' (fun e w'' => e = .returned (.tuple #[tV (rootF f (ts.take k)).1, .int .i64 (rootF f (ts.take k)).2]) ∧ Below w'.heap.size w' w'')) := aside (fun w' h1 => HI.out (ts.take k) (by rw [List.length_take]; omega) (by rw [List.length_take]; omega) (fun t ht => HD.out t (List.mem_of_mem_take ht)) _ k c w' (by omega) h1)
    have HC2 : Hid (∀ w', TSl w' w'.heap.size (some ⟨tb, to + k * 33, none⟩) (n - k) (ts.drop k) → Calls Tryd.prog 18 #[.slice (some ⟨tb, to + k * 33, none⟩) (n - k) (c - k)] w' (fun e w'' => e = .returned (.tuple #[tV (rootF f (ts.drop k)).1, .int .i64 (rootF f (ts.drop k)).2]) ∧ Below w'.heap.size w' w'')) := aside (fun w' h1 => HI.out (ts.drop k) (by rw [List.length_drop]; omega) (by rw [List.length_drop]; omega) (fun t ht => HD.out t (List.mem_of_mem_drop ht)) _ (n - k) (c - k) w' (by omega) h1)
    have HD1 := aside (rootF_dig f (ts.take k) (fun t ht => HD.out t (List.mem_of_mem_take ht)))
    have HD2 := aside (rootF_dig f (ts.drop k) (fun t ht => HD.out t (List.mem_of_mem_drop ht)))
    have hkc : k ≤ c := by omega
    have hkn : k ≤ n := by omega
    clear HI hlf hl256
    generalize rootF f (ts.take k) = r1 at HR HC1 HD1
    generalize rootF f (ts.drop k) = r2 at HR HC2 HD2
    obtain ⟨x1, q1⟩ := r1
    obtain ⟨x2, q2⟩ := r2
    have HR' : rootF (f + 1) ts = if q1 ≠ 0 then (noTot, q1) else if q2 ≠ 0 then (noTot, q2) else nodeR x1 x2 := HR.out
    clear HR
    generalize rootF (f + 1) ts = R at HR' ⊢
    have HRs := aside HR'
    clear HR'
    go_enter Tryd.func18, Tryd.ntmps18
    go_upto_region 1 with fail
    change Code.wp _ _ _ _ (w.alloc (.cells (totR 0 zeroD) 25))
    have TZ : Hid (TotAt (w.alloc (.cells (totR 0 zeroD) 25)) w.heap.size 0 zeroD) := aside (TotAt.new w _ _)
    have HB1 : Hid (Below w.heap.size w (w.alloc (.cells (totR 0 zeroD) 25))) := aside (below_more (Below.refl _ _) _)
    generalize w.alloc (.cells (totR 0 zeroD) 25) = w1 at TZ HB1 ⊢
    obtain ⟨N, hN⟩ : ∃ N, N = w.heap.size := ⟨_, rfl⟩
    have EN := aside hN
    rw [← hN] at TZ ⊢
    clear hN
    go_upto_region 9 with (first
      | (go_at_call 25; refine (HHalf.out _).mono ?_; rintro e w' ⟨rfl, hw'⟩; rw [hw']; clear hw' w')
      | (go_at_call 18; refine (HC1.out w1 ((Sl.below HL1.out HB1.out).more HB1.out.size)).mono ?_; rintro e w2 ⟨rfl, hb2⟩; have HB2 : Hid (Below w.heap.size w w2) := aside (HB1.out.trans (hb2.mono HB1.out.size)); have TZ2 : Hid (TotAt w2 N 0 zeroD) := aside (TZ.out.below hb2 TZ.out.lt); have R2 := TotAt.new w2 0 zeroD; clear hb2)
      | (refine wpList_store_row rfl 25 (.tmp 5) (.tmp 34) rfl w2.heap.size (totR x1.1 x1.2) rfl rfl 25 (totR 0 zeroD) R2 (totInfo HD1.out.1) (tot_same rfl HD1.out.1) (totR_one _ _) ?_)
      | fail)
    clear TZ
    change Code.wp _ _ _ _ ((w2.alloc (.cells (totR 0 zeroD) 25)).setRow w2.heap.size (totR x1.1 x1.2))
    obtain ⟨w3, hw3⟩ : ∃ w3, w3 = ((w2.alloc (.cells (totR 0 zeroD) 25)).setRow w2.heap.size (totR x1.1 x1.2)) := ⟨_, rfl⟩
    obtain ⟨tn, bn, -⟩ := store_new w2 x1.1 x1.2 w3 hw3
    rw [← hw3]
    have TZ3 : Hid (TotAt w3 N 0 zeroD) := aside (TZ2.out.below bn TZ2.out.lt)
    have TX : Hid (TotAt w3 w2.heap.size x1.1 x1.2) := aside tn
    have Hw3 : Hid (Below w.heap.size w w3) := aside (HB2.out.trans (bn.mono HB2.out.size))
    obtain ⟨X, hX⟩ : ∃ X, X = w2.heap.size := ⟨_, rfl⟩
    rw [← hX] at TX ⊢
    clear tn bn hw3 hX
    clear R2 TZ2
    by_cases hq1 : q1 = 0
    rotate_left
    · have HRe : Hid (R = (noTot, q1)) := aside (HRs.out.trans (if_pos hq1))
      have ne1 : (q1 != 0) = true := by simpa using hq1
      clear hq1 HRs
      go_wp2_with (first
        | (refine wpList_totz rfl rfl ?_)
        | (refine wpList_store_row rfl 25 (.tmp 2) (.tmp 38) rfl N (totR 0 zeroD) rfl rfl 25 (totR 0 zeroD) TZ3.out (totInfo rfl) (tot_same rfl rfl) (totR_one _ _) ?_)
        | fail)
      refine bodyPost_ret (results_cell_tmp rfl _ _ N 25 (totR 0 zeroD) (0, 0) _ rfl (setRow_heap w3 N _ _ _ _ TZ3.out) Tryd.underlying25 rfl (totInfo rfl)) rfl ?_
      exact ⟨by rw [HRe.out]; rfl, below_setRow Hw3.out _ (Nat.le_of_eq EN.out.symm) _⟩
    subst hq1
    have HR2 : Hid (R = if q2 ≠ 0 then (noTot, q2) else nodeR x1 x2) := aside (HRs.out.trans (if_neg (by simp)))
    clear HRs
    go_upto_region 12 with (first
      | (go_at_call 18; refine (HC2.out w3 ((Sl.below HL2.out Hw3.out).more Hw3.out.size)).mono ?_; rintro e w4 ⟨rfl, hb4⟩; have HB4 : Hid (Below w.heap.size w w4) := aside (Hw3.out.trans (hb4.mono Hw3.out.size)); have TZ4 : Hid (TotAt w4 N 0 zeroD) := aside (TZ3.out.below hb4 TZ3.out.lt); have TX4 : Hid (TotAt w4 X x1.1 x1.2) := aside (TX.out.below hb4 TX.out.lt); have R4 := TotAt.new w4 0 zeroD; clear hb4)
      | (refine wpList_store_row rfl 25 (.tmp 7) (.tmp 45) rfl w4.heap.size (totR x2.1 x2.2) rfl rfl 25 (totR 0 zeroD) R4 (totInfo HD2.out.1) (tot_same rfl HD2.out.1) (totR_one _ _) ?_)
      | fail)
    clear TZ3 TX
    change Code.wp _ _ _ _ ((w4.alloc (.cells (totR 0 zeroD) 25)).setRow w4.heap.size (totR x2.1 x2.2))
    obtain ⟨w5, hw5⟩ : ∃ w5, w5 = ((w4.alloc (.cells (totR 0 zeroD) 25)).setRow w4.heap.size (totR x2.1 x2.2)) := ⟨_, rfl⟩
    obtain ⟨tn, bn, -⟩ := store_new w4 x2.1 x2.2 w5 hw5
    rw [← hw5]
    have TZ5 : Hid (TotAt w5 N 0 zeroD) := aside (TZ4.out.below bn TZ4.out.lt)
    have TX5 : Hid (TotAt w5 X x1.1 x1.2) := aside (TX4.out.below bn TX4.out.lt)
    have TY : Hid (TotAt w5 w4.heap.size x2.1 x2.2) := aside tn
    have Hw5 : Hid (Below w.heap.size w w5) := aside (HB4.out.trans (bn.mono HB4.out.size))
    obtain ⟨Y, hY⟩ : ∃ Y, Y = w4.heap.size := ⟨_, rfl⟩
    rw [← hY] at TY ⊢
    clear tn bn hw5 hY
    clear R4 TZ4 TX4
    by_cases hq2 : q2 = 0
    rotate_left
    · have HRe : Hid (R = (noTot, q2)) := aside (HR2.out.trans (if_pos hq2))
      have ne1 : (q2 != 0) = true := by simpa using hq2
      clear hq2 HR2
      go_wp2_with (first
        | (refine wpList_totz rfl rfl ?_)
        | (refine wpList_store_row rfl 25 (.tmp 2) (.tmp 49) rfl N (totR 0 zeroD) rfl rfl 25 (totR 0 zeroD) TZ5.out (totInfo rfl) (tot_same rfl rfl) (totR_one _ _) ?_)
        | fail)
      refine bodyPost_ret (results_cell_tmp rfl _ _ N 25 (totR 0 zeroD) (0, 0) _ rfl (setRow_heap w5 N _ _ _ _ TZ5.out) Tryd.underlying25 rfl (totInfo rfl)) rfl ?_
      exact ⟨by rw [HRe.out]; rfl, below_setRow Hw5.out _ (Nat.le_of_eq EN.out.symm) _⟩
    subst hq2
    have HRe : Hid (R = nodeR x1 x2) := aside (HR2.out.trans (if_neg (by simp)))
    clear HR2
    have hN := fun w => rnode_any x1 x2 HD1.out HD2.out w
    have hdz := nodeR_dig x1 x2
    obtain ⟨⟨z, s⟩, hz⟩ : ∃ r, r = nodeR x1 x2 := ⟨_, rfl⟩
    rw [← hz] at hN hdz
    have HN2 : Hid (∀ w, Calls Tryd.prog 16 #[.agg (totR x1.1 x1.2), .agg (totR x2.1 x2.2)] w (fun e w' => e = .returned (.tuple #[tV z, .int .i64 s]) ∧ Below w.heap.size w w')) := aside hN
    have HDz : Hid (Dig z.2) := aside hdz
    have HRz : Hid (R = (z, s)) := aside (HRe.out.trans hz.symm)
    clear hN hdz hz HRe
    go_wp2_with (first
      | (refine wpList_load_row rfl 25 (.tmp 5) rfl X rfl 25 (totR x1.1 x1.2) (0, 0) _ TX5.out Tryd.underlying25 rfl (totInfo HD1.out.1) ?_)
      | (refine wpList_load_row rfl 25 (.tmp 7) rfl Y rfl 25 (totR x2.1 x2.2) (0, 0) _ TY.out Tryd.underlying25 rfl (totInfo HD2.out.1) ?_)
      | (go_at_call 16; refine (HN2.out w5).mono ?_; rintro e w6 ⟨rfl, hb6⟩; have HB6 : Hid (Below w.heap.size w w6) := aside (Hw5.out.trans (hb6.mono Hw5.out.size)); have TZ6 : Hid (TotAt w6 N 0 zeroD) := aside (TZ5.out.below hb6 TZ5.out.lt); clear hb6)
      | (refine wpList_store_row rfl 25 (.tmp 2) (.tmp 54) rfl N (totR z.1 z.2) rfl rfl 25 (totR 0 zeroD) TZ6.out (totInfo HDz.out.1) (tot_same rfl HDz.out.1) (totR_one _ _) ?_)
      | fail)
    refine bodyPost_ret (results_cell_tmp rfl _ _ N 25 (totR z.1 z.2) (0, 0) _ rfl (setRow_heap w6 N _ _ _ _ TZ6.out) Tryd.underlying25 rfl (totInfo HDz.out.1)) rfl ?_
    exact ⟨by rw [HRz.out]; rfl, below_setRow HB6.out _ (Nat.le_of_eq EN.out.symm) _⟩
end Go.Proofs.YtkpbhbafapdboaaDoor
