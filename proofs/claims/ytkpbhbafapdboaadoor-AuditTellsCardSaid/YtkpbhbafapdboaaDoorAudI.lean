/- The root of all: audit.root, audit.Root: the walks. Conditions: named in each theorem. -/
import Derived.Test.YtkpbhbafapdboaaDoorAudH
namespace Go.Proofs.YtkpbhbafapdboaaDoor
open Go.RowKit Go.ChangeShapes Go.WideShapes Go.ChangeAt

theorem TSl.of {w : World} {B b off n : Nat} {ts : List Tot} (hl : ts.length = n) (hb : b < B) (h : ∀ j u, (ts.flatMap totE)[j]? = some u → w.cell? ⟨b, off + j, none⟩ = some u) : TSl w B (some ⟨b, off, none⟩) n ts :=
  ⟨by rw [flat_len totE_len, hl], fun _ => ⟨b, off, rfl, hb, h⟩⟩
theorem flat_split (ts : List Tot) (k : Nat) : ts.flatMap totE = (ts.take k).flatMap totE ++ (ts.drop k).flatMap totE := by
  rw [← List.flatMap_append, List.take_append_drop]
theorem TSl.take {w : World} {B b off n k : Nat} {ts : List Tot} (h : TSl w B (some ⟨b, off, none⟩) n ts) (hk : k ≤ n) : TSl w B (some ⟨b, off, none⟩) k (ts.take k) := by
  have hl := FSl.len totE_len (by decide) h
  rcases Nat.eq_zero_or_pos n with h0 | h0
  · have : k = 0 := by omega
    subst this
    rw [List.take_zero]
    exact Sl.nil_
  · obtain ⟨b', off', e, hb, hc⟩ := Sl.cells h h0
    injection e with e
    injection e with e1 e2
    subst e1 e2
    refine TSl.of (by rw [List.length_take]; omega) hb fun j u hu => hc j u ?_
    rw [flat_split ts k, List.getElem?_append_left (List.getElem?_eq_some_iff.1 hu).1]
    exact hu
theorem TSl.drop {w : World} {B b off n k : Nat} {ts : List Tot} (h : TSl w B (some ⟨b, off, none⟩) n ts) (hk : k < n) : TSl w B (some ⟨b, off + k * 33, none⟩) (n - k) (ts.drop k) := by
  have hl := FSl.len totE_len (by decide) h
  obtain ⟨b', off', e, hb, hc⟩ := Sl.cells h (by omega)
  injection e with e
  injection e with e1 e2
  subst e1 e2
  refine TSl.of (by rw [List.length_drop]; omega) hb fun j u hu => ?_
  have hz : ((ts.take k).flatMap totE).length = k * 33 := by rw [flat_len totE_len, List.length_take]; congr 1; omega
  have := hc (k * 33 + j) u (by rw [flat_split ts k, List.getElem?_append_right (by omega), hz, Nat.add_sub_cancel_left]; exact hu)
  rw [← Nat.add_assoc] at this
  exact this
/-- The root of all; an error's number. -/
def rootF : Nat → List Tot → Tot × Int
  | 0, _ => (noTot, 0)
  | f + 1, ts =>
    if ts.length = 0 then ((0, shaL []), 0)
    else if ts.length = 1 then (if Mny (ts.getD 0 noTot).1 then (ts.getD 0 noTot, 0) else (noTot, 2))
    else if (rootF f (ts.take (halfN ts.length))).2 ≠ 0 then (noTot, (rootF f (ts.take (halfN ts.length))).2)
    else if (rootF f (ts.drop (halfN ts.length))).2 ≠ 0 then (noTot, (rootF f (ts.drop (halfN ts.length))).2)
    else nodeR (rootF f (ts.take (halfN ts.length))).1 (rootF f (ts.drop (halfN ts.length))).1
theorem rootF_dig : ∀ (f : Nat) (ts : List Tot), (∀ t ∈ ts, Dig t.2) → Dig (rootF f ts).1.2
  | 0, _, _ => zeroD_dig
  | f + 1, ts, h => by
    unfold rootF
    split
    · exact shaL_dig _
    · split
      · split
        · exact h _ (getD_mem (ls := ts) (k := 0) noTot (by omega))
        · exact zeroD_dig
      · split
        · exact zeroD_dig
        · split
          · exact zeroD_dig
          · exact nodeR_dig _ _
theorem rootF_more : ∀ (f g : Nat) (ts : List Tot), ts.length < f → ts.length < g → ts.length ≤ 256 → rootF f ts = rootF g ts
  | 0, _, _, h, _, _ => by omega
  | _ + 1, 0, _, _, h, _ => by omega
  | f + 1, g + 1, ts, h1, h2, h3 => by
    unfold rootF
    by_cases h0 : ts.length = 0
    · rw [if_pos h0, if_pos h0]
    · rw [if_neg h0, if_neg h0]
      by_cases hh : ts.length = 1
      · rw [if_pos hh, if_pos hh]
      · rw [if_neg hh, if_neg hh]
        have hk := half_lt (n := ts.length) (by omega) h3
        rw [rootF_more f g (ts.take (halfN ts.length)) (by rw [List.length_take]; omega) (by rw [List.length_take]; omega) (by rw [List.length_take]; omega),
          rootF_more f g (ts.drop (halfN ts.length)) (by rw [List.length_drop]; omega) (by rw [List.length_drop]; omega) (by rw [List.length_drop]; omega)]

theorem built_tot1 : ∀ (d : List Nat), d.length = 32 → Tryd.prog.built 25 [(1, digV d)] = some (totR 0 d)
  | [a0, a1, a2, a3, a4, a5, a6, a7, a8, a9, a10, a11, a12, a13, a14, a15, a16, a17, a18, a19, a20, a21, a22, a23, a24, a25, a26, a27, a28, a29, a30, a31], _ => by kernel_rfl
set_option maxRecDepth 100000 in
/-- A total is made of a digest. -/
theorem wpList_tot1 {ops : Array Oper} {rest : List Oper} {o : Oper} {a : Act} {w : World} {Q : Exit → Act → World → Prop} (hg : o.guard = none) (y : Operand) (ho : o.op = .build 25 #[(1, y)])
    (d : List Nat) (hy : a.eval y = digV d) (hd : d.length = 32) (h : wpList Tryd.prog ops Q rest (a.put o.dst (totV 0 d)) w) : wpList Tryd.prog ops Q (o :: rest) a w := by
  have hb : Tryd.prog.built 25 ((#[(1, y)] : Array (Nat × Operand)).map fun (i, x) => (i, a.eval x)).toList = some (totR 0 d) := by
    simp only [List.map_toArray, List.map_cons, List.map_nil, hy]
    exact built_tot1 d hd
  refine wpList_build hg 25 #[(1, y)] ho (by rw [hb]; rfl) ?_
  rw [hb]
  exact h

set_option maxHeartbeats 4000000 in
set_option maxRecDepth 100000 in
theorem root_any : ∀ (f : Nat) (ts : List Tot), ts.length < f → ts.length ≤ 256 → (∀ t ∈ ts, Dig t.2) → ∀ (A : Option Addr) (n c : Nat) (w : World), n ≤ c → TSl w w.heap.size A n ts → RoundsAt w →
    Calls Tryd.prog 26 #[.slice A n c] w (fun e w' => e = .returned (tellV (rootF f ts)) ∧ Below w.heap.size w w')
  | 0, ts, h, _, _, _, _, _, _, _, _, _ => absurd h (Nat.not_lt_zero _)
  | f + 1, ts, hlf, hl256, hd, A, n, c, w, hnc, h, hg => by
    have ih := root_any f
    have hln := FSl.len totE_len (by decide) h
    have HG := aside hg
    have HD := aside hd
    have HSl := aside h
    have HI := aside ih
    have hn256 : n ≤ 256 := by omega
    clear ih hg hd h
    by_cases h0 : n = 0
    · subst h0
      have hR : rootF (f + 1) ts = ((0, shaL []), 0) := by
        unfold rootF
        rw [if_pos hln]
      rw [hR]
      clear hR HI hnc hlf hl256 hn256
      go_enter Tryd.func26, Tryd.ntmps26
      go_upto_region 1 with fail
      change Code.wp _ _ _ _ (w.alloc (.cells (totR 0 zeroD) 25))
      have TZ : Hid (TotAt (w.alloc (.cells (totR 0 zeroD) 25)) w.heap.size 0 zeroD) := aside (TotAt.new w _ _)
      have hB1 : Below w.heap.size w (w.alloc (.cells (totR 0 zeroD) 25)) := below_more (Below.refl _ _) _
      generalize w.alloc (.cells (totR 0 zeroD) 25) = w1 at TZ hB1 ⊢
      have HB1 := aside hB1
      have HG1 : Hid (RoundsAt w1) := aside (HG.out.below hB1)
      clear hB1
      go_wp2_with (first
        | (go_at_call 31; refine (sha_any [] none 0 0 w1 Sl.nil_ (by decide) (fun x hx => by simp at hx) HG1.out).mono ?_; rintro e w2 ⟨rfl, hb2⟩; have HB2 := aside (HB1.out.trans (hb2.mono HB1.out.size)); have TZ2 : Hid (TotAt w2 w.heap.size 0 zeroD) := aside (TZ.out.below hb2 TZ.out.lt); clear hb2)
        | (refine wpList_tot1 rfl (.tmp 13) rfl (shaL []) rfl (shaL_len _) ?_)
        | (refine wpList_store_row rfl 25 (.tmp 2) (.tmp 14) rfl w.heap.size (totR 0 (shaL [])) rfl rfl 25 (totR 0 zeroD) TZ2.out (totInfo (shaL_len _)) (tot_same rfl (shaL_len _)) (totR_one _ _) ?_)
        | fail)
      refine bodyPost_ret (results_cell_tmp rfl _ _ w.heap.size 25 (totR 0 (shaL [])) (0, 0) _ rfl (setRow_heap w2 w.heap.size _ _ _ _ TZ2.out) Tryd.underlying25 rfl (totInfo (shaL_len _))) rfl ?_
      exact ⟨rfl, below_setRow HB2.out _ (Nat.le_refl _) _⟩
    have e0 : ((n : Int) == 0) = false := by simp; omega
    by_cases h1 : n = 1
    · subst h1
      obtain ⟨tb, to, hA, htb, htr, htd⟩ := TSl.at_ HSl.out HD.out (show 0 < 1 by decide)
      subst hA
      have hR : rootF (f + 1) ts = if Mny (ts.getD 0 noTot).1 then (ts.getD 0 noTot, 0) else (noTot, 2) := by
        unfold rootF
        rw [if_neg (by omega), if_pos hln]
      rw [hR]
      clear hR HI hnc hlf hl256 hn256
      generalize ts.getD 0 noTot = t at htr htd ⊢
      rw [Nat.zero_mul, Nat.add_zero] at htr
      have hc0 : w.cell? ⟨tb, to, none⟩ = some (.int .i64 t.1) := htr 0 _ rfl
      have HTd := aside htd
      clear htd
      by_cases hm : Mny t.1
      · rw [if_pos hm]
        have HM := aside hm
        clear hm
        go_enter Tryd.func26, Tryd.ntmps26
        go_upto_region 1 with fail
        change Code.wp _ _ _ _ (w.alloc (.cells (totR 0 zeroD) 25))
        have TZ : Hid (TotAt (w.alloc (.cells (totR 0 zeroD) 25)) w.heap.size 0 zeroD) := aside (TotAt.new w _ _)
        have hB1 : Below w.heap.size w (w.alloc (.cells (totR 0 zeroD) 25)) := below_more (Below.refl _ _) _
        have hc1 : (w.alloc (.cells (totR 0 zeroD) 25)).cell? ⟨tb, to, none⟩ = some (.int .i64 t.1) := (hB1.cell (p := ⟨tb, to, none⟩) htb).trans hc0
        have Hr1 : Hid ((w.alloc (.cells (totR 0 zeroD) 25)).rangeAt tb to (totL t.1 t.2)) := aside (fun j v hv => (hB1.cell (p := ⟨tb, to + j, none⟩) htb).trans (htr j v hv))
        generalize w.alloc (.cells (totR 0 zeroD) 25) = w1 at TZ hB1 hc1 Hr1 ⊢
        have HB1 := aside hB1
        clear hB1 hc0 htr
        go_wp2_with (first
          | (go_at_call 24; refine (check_ok t.1 HM.out _).mono ?_; rintro e w' ⟨rfl, hw'⟩; rw [hw']; clear hw' w')
          | (refine wpList_load_mid rfl 25 (.tmp 27) rfl tb to rfl (totL t.1 t.2) _ Hr1.out Tryd.underlying25 rfl (totLI HTd.out.1) ?_)
          | (refine wpList_store_row rfl 25 (.tmp 2) (.tmp 28) rfl w.heap.size (totR t.1 t.2) rfl rfl 25 (totR 0 zeroD) TZ.out (totInfo HTd.out.1) (tot_same rfl HTd.out.1) (totR_one _ _) ?_)
          | fail)
        refine bodyPost_ret (results_cell_tmp rfl _ _ w.heap.size 25 (totR t.1 t.2) (0, 0) _ rfl (setRow_heap w1 w.heap.size _ _ _ _ TZ.out) Tryd.underlying25 rfl (totInfo HTd.out.1)) rfl ?_
        exact ⟨rfl, below_setRow HB1.out _ (Nat.le_refl _) _⟩
      · rw [if_neg hm]
        have HM := aside hm
        clear hm
        go_enter Tryd.func26, Tryd.ntmps26
        go_upto_region 1 with fail
        change Code.wp _ _ _ _ (w.alloc (.cells (totR 0 zeroD) 25))
        have TZ : Hid (TotAt (w.alloc (.cells (totR 0 zeroD) 25)) w.heap.size 0 zeroD) := aside (TotAt.new w _ _)
        have hB1 : Below w.heap.size w (w.alloc (.cells (totR 0 zeroD) 25)) := below_more (Below.refl _ _) _
        have hc1 : (w.alloc (.cells (totR 0 zeroD) 25)).cell? ⟨tb, to, none⟩ = some (.int .i64 t.1) := (hB1.cell (p := ⟨tb, to, none⟩) htb).trans hc0
        generalize w.alloc (.cells (totR 0 zeroD) 25) = w1 at TZ hB1 hc1 ⊢
        have HB1 := aside hB1
        clear hB1 hc0 htr
        go_wp2_with (first
          | (go_at_call 24; refine (check_bad t.1 HM.out _).mono ?_; rintro e w' ⟨rfl, hw'⟩; rw [hw']; clear hw' w')
          | (refine wpList_totz rfl rfl ?_)
          | (refine wpList_store_row rfl 25 (.tmp 2) (.tmp 24) rfl w.heap.size (totR 0 zeroD) rfl rfl 25 (totR 0 zeroD) TZ.out (totInfo rfl) rfl (totR_one _ _) ?_)
          | fail)
        refine bodyPost_ret (results_cell_tmp rfl _ _ w.heap.size 25 (totR 0 zeroD) (0, 0) _ rfl (setRow_heap w1 w.heap.size _ _ _ _ TZ.out) Tryd.underlying25 rfl (totInfo rfl)) rfl ?_
        exact ⟨rfl, below_setRow HB1.out _ (Nat.le_refl _) _⟩
    have e1 : ((n : Int) == 1) = false := by simp; omega
    obtain ⟨tb, to, hA, htb, -, -⟩ := TSl.at_ HSl.out HD.out (show 0 < n by omega)
    subst hA
    have hh := half_lt (n := n) (by omega) hn256
    have HHalf := aside (half_any n (by omega) hn256)
    have HR : Hid (rootF (f + 1) ts = if (rootF f (ts.take (halfN n))).2 ≠ 0 then (noTot, (rootF f (ts.take (halfN n))).2) else if (rootF f (ts.drop (halfN n))).2 ≠ 0 then (noTot, (rootF f (ts.drop (halfN n))).2) else nodeR (rootF f (ts.take (halfN n))).1 (rootF f (ts.drop (halfN n))).1) := aside (by
      conv => lhs; unfold rootF
      rw [if_neg (by omega), if_neg (by omega), hln])
    generalize halfN n = k at hh HHalf HR
    obtain ⟨k1, k2⟩ := hh
    have HL1 : Hid (TSl w w.heap.size (some ⟨tb, to, none⟩) k (ts.take k)) := aside (HSl.out.take (Nat.le_of_lt k2))
    have HL2 : Hid (TSl w w.heap.size (some ⟨tb, to + k * 33, none⟩) (n - k) (ts.drop k)) := aside (HSl.out.drop k2)
    have HC1 : Hid (∀ w', TSl w' w'.heap.size (some ⟨tb, to, none⟩) k (ts.take k) → RoundsAt w' → Calls Tryd.prog 26 #[.slice (some ⟨tb, to, none⟩) k c] w' (fun e w'' => e = .returned (tellV (rootF f (ts.take k))) ∧ Below w'.heap.size w' w'')) := aside (fun w' h1 h2 => HI.out (ts.take k) (by rw [List.length_take]; omega) (by rw [List.length_take]; omega) (fun t ht => HD.out t (List.mem_of_mem_take ht)) _ k c w' (by omega) h1 h2)
    have HC2 : Hid (∀ w', TSl w' w'.heap.size (some ⟨tb, to + k * 33, none⟩) (n - k) (ts.drop k) → RoundsAt w' → Calls Tryd.prog 26 #[.slice (some ⟨tb, to + k * 33, none⟩) (n - k) (c - k)] w' (fun e w'' => e = .returned (tellV (rootF f (ts.drop k))) ∧ Below w'.heap.size w' w'')) := aside (fun w' h1 h2 => HI.out (ts.drop k) (by rw [List.length_drop]; omega) (by rw [List.length_drop]; omega) (fun t ht => HD.out t (List.mem_of_mem_drop ht)) _ (n - k) (c - k) w' (by omega) h1 h2)
    have HD1 := aside (rootF_dig f (ts.take k) (fun t ht => HD.out t (List.mem_of_mem_take ht)))
    have HD2 := aside (rootF_dig f (ts.drop k) (fun t ht => HD.out t (List.mem_of_mem_drop ht)))
    have hkc : k ≤ c := by omega
    have hkn : k ≤ n := by omega
    clear HI hlf hl256
    generalize rootF f (ts.take k) = r1 at HR HC1 HD1
    generalize rootF f (ts.drop k) = r2 at HR HC2 HD2
    obtain ⟨x1, q1⟩ := r1
    obtain ⟨x2, q2⟩ := r2
    have HR' : rootF (f + 1) ts = if q1 ≠ 0 then (noTot, q1) else if q2 ≠ 0 then (noTot, q2) else nodeR x1 x2 := HR.out
    clear HR
    generalize rootF (f + 1) ts = R at HR' ⊢
    have HRs := aside HR'
    clear HR'
    simp only at HD1 HD2
    go_enter Tryd.func26, Tryd.ntmps26
    go_upto_region 1 with fail
    change Code.wp _ _ _ _ (w.alloc (.cells (totR 0 zeroD) 25))
    have TZ : Hid (TotAt (w.alloc (.cells (totR 0 zeroD) 25)) w.heap.size 0 zeroD) := aside (TotAt.new w _ _)
    have hB1 : Below w.heap.size w (w.alloc (.cells (totR 0 zeroD) 25)) := below_more (Below.refl _ _) _
    have Hl1 : Hid (TSl (w.alloc (.cells (totR 0 zeroD) 25)) (w.alloc (.cells (totR 0 zeroD) 25)).heap.size (some ⟨tb, to, none⟩) k (ts.take k)) := aside ((Sl.below HL1.out hB1).more hB1.size)
    generalize w.alloc (.cells (totR 0 zeroD) 25) = w1 at TZ hB1 Hl1 ⊢
    obtain ⟨N, hN⟩ : ∃ N, N = w.heap.size := ⟨_, rfl⟩
    have EN := aside hN
    rw [← hN] at TZ ⊢
    clear hN
    have HB1 := aside hB1
    clear hB1
    go_upto_region 11 with (first
      | (go_at_call 27; refine (HHalf.out _).mono ?_; rintro e w' ⟨rfl, hw'⟩; rw [hw']; clear hw' w')
      | fail)
    refine (HC1.out w1 Hl1.out (HG.out.below HB1.out)).mono ?_
    rintro e w2 ⟨rfl, hb2⟩
    have hBw2 : Below w.heap.size w w2 := HB1.out.trans (hb2.mono HB1.out.size)
    have TZ2 : Hid (TotAt w2 N 0 zeroD) := aside (TZ.out.below hb2 TZ.out.lt)
    have R2 := TotAt.new w2 0 zeroD
    have HBw2 := aside hBw2
    clear hb2 hBw2 TZ Hl1 HC1
    have hv1 : tellV (x1, q1) = .tuple #[tV x1, errA q1] := rfl
    rw [hv1]
    clear hv1
    by_cases hq1 : q1 = 0
    rotate_left
    · have he : errA q1 = .iface 40 (.int .i64 q1) := by unfold errA; rw [if_neg hq1]
      have HR : Hid (R = (noTot, q1)) := aside (HRs.out.trans (if_pos hq1))
      rw [he]
      have HQ := aside hq1
      clear he hq1
      go_upto_region 12 with (first
        | (refine wpList_store_row rfl 25 (.tmp 6) (.tmp 37) rfl w2.heap.size (totR x1.1 x1.2) rfl rfl 25 (totR 0 zeroD) R2 (totInfo HD1.out.1) (tot_same rfl HD1.out.1) (totR_one _ _) ?_)
        | fail)
      have TZ3 : TotAt ((w2.alloc (.cells (totR 0 zeroD) 25)).setRow w2.heap.size (totR x1.1 x1.2)) N 0 zeroD := (TZ2.out.alloc _).otherRow _ (Nat.ne_of_lt TZ2.out.lt)
      have hB3 : Below w.heap.size w ((w2.alloc (.cells (totR 0 zeroD) 25)).setRow w2.heap.size (totR x1.1 x1.2)) := below_setRow (HBw2.out.alloc HBw2.out.size _) _ HBw2.out.size _
      change Code.wp _ _ _ _ ((w2.alloc (.cells (totR 0 zeroD) 25)).setRow w2.heap.size (totR x1.1 x1.2))
      clear R2
      generalize ((w2.alloc (.cells (totR 0 zeroD) 25)).setRow w2.heap.size (totR x1.1 x1.2)) = w3 at TZ3 hB3 ⊢
      have TZ := aside TZ3
      have HB3 := aside hB3
      clear TZ3 hB3
      go_wp2_with (first
        | (refine wpList_totz rfl rfl ?_)
        | (refine wpList_store_row rfl 25 (.tmp 2) (.tmp 41) rfl N (totR 0 zeroD) rfl rfl 25 (totR 0 zeroD) TZ.out (totInfo rfl) rfl (totR_one _ _) ?_)
        | fail)
      refine bodyPost_ret (results_cell_tmp rfl _ _ N 25 (totR 0 zeroD) (0, 0) _ rfl (setRow_heap w3 N _ _ _ _ TZ.out) Tryd.underlying25 rfl (totInfo rfl)) rfl ?_
      refine ⟨?_, below_setRow HB3.out _ (Nat.le_of_eq EN.out.symm) _⟩
      rw [HR.out]
      unfold tellV errA
      rw [if_neg HQ.out]
      rfl
    subst hq1
    rw [show errA 0 = .nilIface from rfl]
    have HR : Hid (R = if q2 ≠ 0 then (noTot, q2) else nodeR x1 x2) := aside (HRs.out.trans (if_neg (by simp)))
    clear HRs
    go_upto_region 12 with (first
      | (refine wpList_store_row rfl 25 (.tmp 6) (.tmp 37) rfl w2.heap.size (totR x1.1 x1.2) rfl rfl 25 (totR 0 zeroD) R2 (totInfo HD1.out.1) (tot_same rfl HD1.out.1) (totR_one _ _) ?_)
      | fail)
    have TZ3' : TotAt ((w2.alloc (.cells (totR 0 zeroD) 25)).setRow w2.heap.size (totR x1.1 x1.2)) N 0 zeroD := (TZ2.out.alloc _).otherRow _ (Nat.ne_of_lt TZ2.out.lt)
    have T63' : TotAt ((w2.alloc (.cells (totR 0 zeroD) 25)).setRow w2.heap.size (totR x1.1 x1.2)) w2.heap.size x1.1 x1.2 := R2.setRow
    have hB3 : Below w.heap.size w ((w2.alloc (.cells (totR 0 zeroD) 25)).setRow w2.heap.size (totR x1.1 x1.2)) := below_setRow (HBw2.out.alloc HBw2.out.size _) _ HBw2.out.size _
    change Calls _ _ _ ((w2.alloc (.cells (totR 0 zeroD) 25)).setRow w2.heap.size (totR x1.1 x1.2)) _
    clear R2
    generalize ((w2.alloc (.cells (totR 0 zeroD) 25)).setRow w2.heap.size (totR x1.1 x1.2)) = w3 at TZ3' T63' hB3 ⊢
    have TZ3 := aside TZ3'
    have T63 := aside T63'
    have HB3 := aside hB3
    clear TZ3' T63' hB3 TZ2 HBw2
    obtain ⟨N6, hN6⟩ : ∃ N6, N6 = w2.heap.size := ⟨_, rfl⟩
    rw [← hN6] at T63 ⊢
    clear hN6
    refine (HC2.out w3 ((Sl.below HL2.out HB3.out).more HB3.out.size) (HG.out.below HB3.out)).mono ?_
    rintro e w4 ⟨rfl, hb4⟩
    have HBw4 : Hid (Below w.heap.size w w4) := aside (HB3.out.trans (hb4.mono HB3.out.size))
    have TZ4 : Hid (TotAt w4 N 0 zeroD) := aside (TZ3.out.below hb4 TZ3.out.lt)
    have T64 : Hid (TotAt w4 N6 x1.1 x1.2) := aside (T63.out.below hb4 T63.out.lt)
    have R4 := TotAt.new w4 0 zeroD
    clear hb4 TZ3 T63 HC2 HB3
    have hv2 : tellV (x2, q2) = .tuple #[tV x2, errA q2] := rfl
    rw [hv2]
    clear hv2
    by_cases hq2 : q2 = 0
    rotate_left
    · have he : errA q2 = .iface 40 (.int .i64 q2) := by unfold errA; rw [if_neg hq2]
      have HR2 : Hid (R = (noTot, q2)) := aside (HR.out.trans (if_pos hq2))
      rw [he]
      have HQ := aside hq2
      clear he hq2
      go_upto_region 15 with (first
        | (refine wpList_store_row rfl 25 (.tmp 8) (.tmp 48) rfl w4.heap.size (totR x2.1 x2.2) rfl rfl 25 (totR 0 zeroD) R4 (totInfo HD2.out.1) (tot_same rfl HD2.out.1) (totR_one _ _) ?_)
        | fail)
      have TZ5 : TotAt ((w4.alloc (.cells (totR 0 zeroD) 25)).setRow w4.heap.size (totR x2.1 x2.2)) N 0 zeroD := (TZ4.out.alloc _).otherRow _ (Nat.ne_of_lt TZ4.out.lt)
      have hB5 : Below w.heap.size w ((w4.alloc (.cells (totR 0 zeroD) 25)).setRow w4.heap.size (totR x2.1 x2.2)) := below_setRow (HBw4.out.alloc HBw4.out.size _) _ HBw4.out.size _
      change Code.wp _ _ _ _ ((w4.alloc (.cells (totR 0 zeroD) 25)).setRow w4.heap.size (totR x2.1 x2.2))
      clear R4
      generalize ((w4.alloc (.cells (totR 0 zeroD) 25)).setRow w4.heap.size (totR x2.1 x2.2)) = w5 at TZ5 hB5 ⊢
      have TZ := aside TZ5
      have HB5 := aside hB5
      clear TZ5 hB5
      go_wp2_with (first
        | (refine wpList_totz rfl rfl ?_)
        | (refine wpList_store_row rfl 25 (.tmp 2) (.tmp 52) rfl N (totR 0 zeroD) rfl rfl 25 (totR 0 zeroD) TZ.out (totInfo rfl) rfl (totR_one _ _) ?_)
        | fail)
      refine bodyPost_ret (results_cell_tmp rfl _ _ N 25 (totR 0 zeroD) (0, 0) _ rfl (setRow_heap w5 N _ _ _ _ TZ.out) Tryd.underlying25 rfl (totInfo rfl)) rfl ?_
      refine ⟨?_, below_setRow HB5.out _ (Nat.le_of_eq EN.out.symm) _⟩
      rw [HR2.out]
      unfold tellV errA
      rw [if_neg HQ.out]
      rfl
    subst hq2
    rw [show errA 0 = .nilIface from rfl]
    have HR2 : Hid (R = nodeR x1 x2) := aside (HR.out.trans (if_neg (by simp)))
    clear HR
    go_upto_region 16 with (first
      | (refine wpList_store_row rfl 25 (.tmp 8) (.tmp 48) rfl w4.heap.size (totR x2.1 x2.2) rfl rfl 25 (totR 0 zeroD) R4 (totInfo HD2.out.1) (tot_same rfl HD2.out.1) (totR_one _ _) ?_)
      | fail)
    have TZ5 : TotAt ((w4.alloc (.cells (totR 0 zeroD) 25)).setRow w4.heap.size (totR x2.1 x2.2)) N 0 zeroD := (TZ4.out.alloc _).otherRow _ (Nat.ne_of_lt TZ4.out.lt)
    have T65 : TotAt ((w4.alloc (.cells (totR 0 zeroD) 25)).setRow w4.heap.size (totR x2.1 x2.2)) N6 x1.1 x1.2 := (T64.out.alloc _).otherRow _ (Nat.ne_of_lt T64.out.lt)
    have T85 : TotAt ((w4.alloc (.cells (totR 0 zeroD) 25)).setRow w4.heap.size (totR x2.1 x2.2)) w4.heap.size x2.1 x2.2 := R4.setRow
    have hB5 : Below w.heap.size w ((w4.alloc (.cells (totR 0 zeroD) 25)).setRow w4.heap.size (totR x2.1 x2.2)) := below_setRow (HBw4.out.alloc HBw4.out.size _) _ HBw4.out.size _
    change Code.wp _ _ _ _ ((w4.alloc (.cells (totR 0 zeroD) 25)).setRow w4.heap.size (totR x2.1 x2.2))
    clear R4
    generalize ((w4.alloc (.cells (totR 0 zeroD) 25)).setRow w4.heap.size (totR x2.1 x2.2)) = w5 at TZ5 T65 T85 hB5 ⊢
    have TZ := aside TZ5
    have T6 := aside T65
    have T8 := aside T85
    have HB5 := aside hB5
    clear TZ5 hB5 T65 T85
    obtain ⟨N8, hN8⟩ : ∃ N8, N8 = w4.heap.size := ⟨_, rfl⟩
    rw [← hN8] at T8 ⊢
    clear hN8
    obtain ⟨y, q, hy⟩ : ∃ y q, nodeR x1 x2 = (y, q) := ⟨_, _, rfl⟩
    have HDy : Hid (Dig y.2) := aside (by have h := nodeR_dig x1 x2; rw [hy] at h; exact h)
    have hNode := node_any x1 x2 HD1.out HD2.out w5 (HG.out.below HB5.out)
    rw [hy] at hNode
    have HNode : Hid (Calls Tryd.prog 17 #[.agg (totR x1.1 x1.2), .agg (totR x2.1 x2.2)] w5 (fun e w' => e = .returned (.tuple #[tV y, errA q]) ∧ Below w5.heap.size w5 w')) := aside hNode
    have HR3 : Hid (R = (y, q)) := aside (by rw [HR2.out, hy])
    clear hNode hy HR2
    obtain ⟨E, hE⟩ : ∃ E, E = errA q := ⟨_, rfl⟩
    rw [← hE] at HNode
    have HE := aside hE
    clear hE
    go_wp2_with (first
      | (refine wpList_load_row rfl 25 (.tmp 6) rfl N6 rfl 25 (totR x1.1 x1.2) (0, 0) _ T6.out Tryd.underlying25 rfl (totInfo HD1.out.1) ?_)
      | (refine wpList_load_row rfl 25 (.tmp 8) rfl N8 rfl 25 (totR x2.1 x2.2) (0, 0) _ T8.out Tryd.underlying25 rfl (totInfo HD2.out.1) ?_)
      | (go_at_call 17; refine HNode.out.mono ?_; rintro e w6 ⟨rfl, hb6⟩; have HB6 : Hid (Below w.heap.size w w6) := aside (HB5.out.trans (hb6.mono HB5.out.size)); have TZ6 : Hid (TotAt w6 N 0 zeroD) := aside (TZ.out.below hb6 TZ.out.lt); clear hb6)
      | (refine wpList_store_row rfl 25 (.tmp 2) (.tmp 57) rfl N (totR y.1 y.2) rfl rfl 25 (totR 0 zeroD) TZ6.out (totInfo HDy.out.1) (tot_same rfl HDy.out.1) (totR_one _ _) ?_)
      | fail)
    refine bodyPost_ret (results_cell_tmp rfl _ _ N 25 (totR y.1 y.2) (0, 0) _ rfl (setRow_heap w6 N _ _ _ _ TZ6.out) Tryd.underlying25 rfl (totInfo HDy.out.1)) rfl ?_
    refine ⟨?_, below_setRow HB6.out _ (Nat.le_of_eq EN.out.symm) _⟩
    rw [HR3.out]
    show Ending.returned (.tuple #[tV y, E]) = Ending.returned (.tuple #[tV y, errA q])
    rw [HE.out]
end Go.Proofs.YtkpbhbafapdboaaDoor
