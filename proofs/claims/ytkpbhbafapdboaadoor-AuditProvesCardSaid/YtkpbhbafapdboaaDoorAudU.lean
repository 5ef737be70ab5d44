/- Each is counted: the walk of AuditProves. Conditions: named in each theorem. -/
import Derived.Test.YtkpbhbafapdboaaDoorAudT
namespace Go.Proofs.YtkpbhbafapdboaaDoor
open Go.RowKit Go.ChangeShapes Go.WideShapes Go.ChangeAt

theorem mem_sum : ∀ (ts : List Tot), (∀ t ∈ ts, 0 ≤ t.1) → ∀ t ∈ ts, t.1 ≤ sumT ts
  | [], _, t, ht => by cases ht
  | x :: r, h, t, ht => by
    have h0 := h x (List.mem_cons_self ..)
    have hr := (sumT_le r 0 (fun y hy => h y (List.mem_cons_of_mem _ hy))).2
    simp only [List.take_zero, sumT] at hr
    simp only [sumT]
    rcases List.mem_cons.1 ht with rfl | ht
    · omega
    · have := mem_sum r (fun y hy => h y (List.mem_cons_of_mem _ hy)) t ht
      omega
/-- Each is counted. -/
theorem fold_root {ts : List Tot} {i : Nat} (hn : ts.length ≤ 256) (hi : i < ts.length) (h0 : (rootF 257 ts).2 = 0) : foldR (ts.getD i noTot) (i : Int) (ts.length : Int) (path0 i ts).reverse = ((rootF 257 ts).1, 0) := by
  obtain ⟨s1, s2, s3⟩ := root_sum 257 ts (by omega) hn h0
  have hm := getD_mem (ls := ts) (k := i) noTot hi
  have hM : Mny (ts.getD i noTot).1 := by
    refine ⟨s1 _ hm, ?_⟩
    have h1 := mem_sum ts s1 _ hm
    have h2 := s3.2
    omega
  unfold foldR
  rw [if_neg (by omega), Int.toNat_natCast, Int.toNat_natCast]
  have hl : (path0 i ts).reverse.length = (way i ts.length).length := by
    rw [List.length_reverse]
    exact pathT_len 257 ts i (by omega) hn hi
  rw [if_neg (by simpa using hl), if_neg (by simpa using hM)]
  exact root_fold 257 ts i (by omega) hn hi h0

set_option maxHeartbeats 4000000 in
set_option maxRecDepth 100000 in
theorem proves_bad (ts : List Tot) (hd : ∀ t ∈ ts, Dig t.2) (i : Int) (A : Option Addr) (n c : Nat) (w : World) (hnc : n ≤ c) (h : TSl w w.heap.size A n ts) (hg : RoundsAt w) (hq : (rootR ts).2 ≠ 0) :
    Calls Tryd.prog 5 #[.slice A n c, .int .i64 i] w (LawPost w) := by
  unfold LawPost
  have hRoot := fun w' h1 h2 => Root_any ts hd A n c w' hnc h1 h2
  have HPath := aside (fun w' h1 h2 => path_bad ts hd i A n c w' hnc h1 h2 (.inl hq))
  have hRd := rootR_dig ts hd
  generalize rootR ts = R at hRoot hRd hq
  obtain ⟨x, q⟩ := R
  have he : errA q = .iface 40 (.int .i64 q) := by unfold errA; rw [if_neg hq]
  have HRoot : Hid (∀ w', TSl w' w'.heap.size A n ts → RoundsAt w' → Calls Tryd.prog 10 #[.slice A n c] w' (fun e w'' => e = .returned (.tuple #[tV x, .iface 40 (.int .i64 q)]) ∧ Below w'.heap.size w' w'')) := aside (by rw [← he]; exact hRoot)
  have HRd := aside hRd
  have HSl := aside h
  have HG := aside hg
  clear hRoot hRd h hg hd hnc he hq
  go_enter Tryd.func5, Tryd.ntmps5
  go_upto_region 5 with (first
    | (go_at_call 7; refine (audited_any w HG.out).mono ?_; rintro e w1 ⟨rfl, hb1⟩; have HB1 := aside hb1; clear hb1)
    | (go_at_call 10; refine (HRoot.out w1 ((Sl.below HSl.out HB1.out).more HB1.out.size) (HG.out.below HB1.out)).mono ?_; rintro e w2 ⟨rfl, hb2⟩; have HB2 : Hid (Below w.heap.size w w2) := aside (HB1.out.trans (hb2.mono HB1.out.size)); have R2 := TotAt.new w2 0 zeroD; clear hb2)
    | (refine wpList_store_row rfl 25 (.tmp 6) (.tmp 20) rfl w2.heap.size (totR x.1 x.2) rfl rfl 25 (totR 0 zeroD) R2 (totInfo HRd.out.1) (tot_same rfl HRd.out.1) (totR_one _ _) ?_)
    | fail)
  have hB3 : Below w.heap.size w ((w2.alloc (.cells (totR 0 zeroD) 25)).setRow w2.heap.size (totR x.1 x.2)) := below_setRow (HB2.out.alloc HB2.out.size _) _ HB2.out.size _
  change Code.wp _ _ _ _ ((w2.alloc (.cells (totR 0 zeroD) 25)).setRow w2.heap.size (totR x.1 x.2))
  clear R2 HB1 HB2
  generalize ((w2.alloc (.cells (totR 0 zeroD) 25)).setRow w2.heap.size (totR x.1 x.2)) = w3 at hB3 ⊢
  have HB3 := aside hB3
  clear hB3
  go_wp2_with (first
    | (go_at_call 11; refine (HPath.out w3 ((Sl.below HSl.out HB3.out).more HB3.out.size) (HG.out.below HB3.out)).mono ?_; rintro e w4 ⟨⟨q2, hq2, rfl⟩, hb4⟩; have HB4 : Hid (Below w.heap.size w w4) := aside (HB3.out.trans (hb4.mono HB3.out.size)); clear hb4 hq2)
    | fail)
  go_ret
  exact ⟨rfl, HB4.out⟩

set_option maxHeartbeats 4000000 in
set_option maxRecDepth 100000 in
theorem proves_ok (ts : List Tot) (hd : ∀ t ∈ ts, Dig t.2) (i : Int) (A : Option Addr) (n c : Nat) (w : World) (hnc : n ≤ c) (h : TSl w w.heap.size A n ts) (hg : RoundsAt w) (hq : (rootR ts).2 = 0) :
    Calls Tryd.prog 5 #[.slice A n c, .int .i64 i] w (LawPost w) := by
  unfold LawPost
  have hln := FSl.len totE_len (by decide) h
  have hn256 : n ≤ 256 := by
    unfold rootR at hq
    by_cases hb : 256 < ts.length
    · rw [if_pos hb] at hq
      exact absurd hq (by decide)
    · omega
  have hRF : rootR ts = rootF 257 ts := by unfold rootR; rw [if_neg (by omega)]
  have hRoot := fun w' h1 h2 => Root_any ts hd A n c w' hnc h1 h2
  have hRd := rootR_dig ts hd
  have HPath : Hid (∀ w', TSl w' w'.heap.size A n ts → RoundsAt w' → Calls Tryd.prog 11 #[.slice A n c, .int .i64 i] w' (fun e w'' => (∃ G m cg E2, e = .returned (.tuple #[.slice G m cg, E2]) ∧ ((0 ≤ i ∧ i < n ∧ E2 = .nilIface ∧ TSl w'' w''.heap.size G m (path0 i.toNat ts).reverse) ∨ ((i < 0 ∨ (n : Int) ≤ i) ∧ ∃ q2 : Int, E2 = .iface 40 (.int .i64 q2)))) ∧ Below w'.heap.size w' w'')) := aside (fun w' h1 h2 => by
    by_cases hr : i < 0 ∨ (n : Int) ≤ i
    · refine (path_bad ts hd i A n c w' hnc h1 h2 (.inr hr)).mono ?_
      rintro e w'' ⟨⟨q2, -, rfl⟩, hb⟩
      exact ⟨⟨none, 0, 0, _, rfl, .inr ⟨hr, q2, rfl⟩⟩, hb⟩
    · obtain ⟨k, rfl⟩ : ∃ k : Nat, i = k := ⟨i.toNat, by omega⟩
      refine (path_ok ts hd k A n c w' hnc h1 h2 hq (by omega)).mono ?_
      rintro e w'' ⟨⟨G, m, cg, rfl, hs⟩, hb⟩
      exact ⟨⟨G, m, cg, _, rfl, .inl ⟨by omega, by omega, rfl, by rw [Int.toNat_natCast]; exact hs⟩⟩, hb⟩)
  rw [hRF] at hq hRoot hRd
  have HQ := aside hq
  obtain ⟨s1, s2, ⟨s3, s4⟩⟩ := root_sum 257 ts (by omega) (by omega) hq
  have HFold : Hid (∀ (k : Nat), k < n → ∀ G m cg w', TSl w' w'.heap.size G m (path0 k ts).reverse → RoundsAt w' → Calls Tryd.prog 8 #[.agg (totR (ts.getD k noTot).1 (ts.getD k noTot).2), .int .i64 k, .int .i64 n, .slice G m cg] w' (fun e w'' => e = .returned (.tuple #[tV (rootF 257 ts).1, .nilIface]) ∧ Below w'.heap.size w' w'')) := aside (fun k hk G m cg w' h1 h2 => by
    have hf := fold_any (ts.getD k noTot) (hd _ (getD_mem (ls := ts) (k := k) noTot (by omega))) k n (path0 k ts).reverse (fun x hx => pathT_dig 257 k ts hd x (List.mem_reverse.1 hx)) G m cg w' h1 h2
    have he := fold_root (ts := ts) (i := k) (by omega) (by omega) HQ.out
    rw [hln] at he
    rw [he] at hf
    exact hf)
  obtain ⟨x, hx⟩ : ∃ x, x = (rootF 257 ts).1 := ⟨_, rfl⟩
  have hx0 : rootF 257 ts = (x, 0) := by rw [hx, ← hq]
  rw [hx0] at hRoot hRd s2 s3 s4
  simp only [hx0] at HFold
  have HRoot : Hid (∀ w', TSl w' w'.heap.size A n ts → RoundsAt w' → Calls Tryd.prog 10 #[.slice A n c] w' (fun e w'' => e = .returned (.tuple #[tV x, .nilIface]) ∧ Below w'.heap.size w' w'')) := aside hRoot
  have HRd : Hid (Dig x.2) := aside hRd
  have HSl := aside h
  have HG := aside hg
  have HD := aside hd
  have HS1 := aside s1
  have HS2 : Hid (x.1 = sumT ts) := aside s2
  have x0 : 0 ≤ x.1 := s3
  have x1 : x.1 ≤ 1125899906842624 := s4
  clear hRoot hRd h hg hd hx hx0 hq hRF HQ s1 s2 s3 s4
  go_enter Tryd.func5, Tryd.ntmps5
  go_upto_region 5 with (first
    | (go_at_call 7; refine (audited_any w HG.out).mono ?_; rintro e w1 ⟨rfl, hb1⟩; have HB1 := aside hb1; clear hb1)
    | (go_at_call 10; refine (HRoot.out w1 ((Sl.below HSl.out HB1.out).more HB1.out.size) (HG.out.below HB1.out)).mono ?_; rintro e w2 ⟨rfl, hb2⟩; have HB2 : Hid (Below w.heap.size w w2) := aside (HB1.out.trans (hb2.mono HB1.out.size)); have R2 := TotAt.new w2 0 zeroD; clear hb2)
    | (refine wpList_store_row rfl 25 (.tmp 6) (.tmp 20) rfl w2.heap.size (totR x.1 x.2) rfl rfl 25 (totR 0 zeroD) R2 (totInfo HRd.out.1) (tot_same rfl HRd.out.1) (totR_one _ _) ?_)
    | fail)
  have hB3 : Below w.heap.size w ((w2.alloc (.cells (totR 0 zeroD) 25)).setRow w2.heap.size (totR x.1 x.2)) := below_setRow (HB2.out.alloc HB2.out.size _) _ HB2.out.size _
  have T3' : TotAt ((w2.alloc (.cells (totR 0 zeroD) 25)).setRow w2.heap.size (totR x.1 x.2)) w2.heap.size x.1 x.2 := R2.setRow
  change Code.wp _ _ _ _ ((w2.alloc (.cells (totR 0 zeroD) 25)).setRow w2.heap.size (totR x.1 x.2))
  clear R2 HB1 HB2
  generalize ((w2.alloc (.cells (totR 0 zeroD) 25)).setRow w2.heap.size (totR x.1 x.2)) = w3 at hB3 T3' ⊢
  have HB3 := aside hB3
  have T3 := aside T3'
  clear hB3 T3'
  generalize w2.heap.size = M at T3 ⊢
  go_upto_region 10 with (first
    | (go_at_call 11; refine (HPath.out w3 ((Sl.below HSl.out HB3.out).more HB3.out.size) (HG.out.below HB3.out)).mono ?_; rintro e w4 ⟨⟨G, m, cg, E2, rfl, hE2⟩, hb4⟩; have HE2 := aside hE2; have HB4 : Hid (Below w.heap.size w w4) := aside (HB3.out.trans (hb4.mono HB3.out.size)); have T4 : Hid (TotAt w4 M x.1 x.2) := aside (T3.out.below hb4 T3.out.lt); clear hb4 hE2)
    | fail)
  have c6 := T4.out.sum
  go_loopw [10, 11] (fun x10 x11 wr => ∃ (k : Nat) (z : Int), k ≤ n ∧ x10 = .int .i64 z ∧ Hid (z = sumT (ts.take k)) ∧ x11 = .int .i64 k ∧ wr = w4) (fun _ x11 _ => n - (Go.RowKit.intOf x11).toNat)
  case atStart => exact ⟨0, 0, by omega, rfl, aside (by simp [sumT]), rfl, rfl⟩
  case round =>
    obtain ⟨k, z, hk, rfl, HZ, rfl, rfl⟩ := hrel
    have hzt := sumT_le ts k HS1.out
    have z0 : 0 ≤ z := by rw [HZ.out]; omega
    have z1 : z ≤ x.1 := by rw [HZ.out, HS2.out]; omega
    clear hzt
    by_cases k1 : k < n
    · have k1' : (k : Int) < (n : Int) := by omega
      obtain ⟨pb, po, hA, hpb, hpr, hpd⟩ := TSl.at_ HSl.out HD.out k1
      have hpn : 0 ≤ (ts.getD k noTot).1 := HS1.out _ (getD_mem (ls := ts) (k := k) noTot (by omega))
      have hk0 : wr.cell? ⟨pb, po + k * 33, none⟩ = some (.int .i64 (ts.getD k noTot).1) := (HB4.out.cell (p := ⟨pb, po + k * 33, none⟩) hpb).trans (hpr 0 _ rfl)
      have HZ2 : Hid (z + (ts.getD k noTot).1 = sumT (ts.take (k + 1))) := aside (by rw [HZ.out, sumT_take (by omega)])
      have hz2 := (sumT_le ts (k + 1) HS1.out).2
      have z2 : z + (ts.getD k noTot).1 ≤ x.1 := by rw [HZ2.out, HS2.out]; omega
      generalize (ts.getD k noTot).1 = a at hpn hk0 HZ2 z2
      have e3 : IntKind.i64.wrap (z + a) = z + a := by rw [IntKind.wrap_i64]; omega
      have hk00 : (0 : Int) ≤ (k : Int) := by omega
      clear hz2 hpr hpd HZ
      subst hA
      go_wp2_with fail
      exact ⟨⟨k + 1, z + a, by omega, rfl, HZ2, by go_num, trivial⟩, by simp [Go.RowKit.intOf]; omega⟩
    · obtain rfl : k = n := by omega
      have k1' : ((k : Int) < (k : Int)) = False := by simp
      have hz : z = x.1 := by
        rw [HZ.out, HS2.out]
        congr 1
        rw [← hln, List.take_length]
      subst hz
      have e5 : (x.1 != x.1) = false := by simp
      clear k1 hk z1 HZ
      rcases HE2.out with ⟨i0, i1, hE, hs⟩ | ⟨hr, q2, hE⟩
      · subst hE
        have HPs := aside hs
        obtain ⟨j, rfl⟩ : ∃ j : Nat, i = j := ⟨i.toNat, by omega⟩
        rw [Int.toNat_natCast] at HPs
        have hj : j < k := by omega
        obtain ⟨pb, po, hA, hpb, hpr, hpd⟩ := TSl.at_ HSl.out HD.out hj
        have HPr : Hid (wr.rangeAt pb (po + j * 33) (totL (ts.getD j noTot).1 (ts.getD j noTot).2)) := aside (fun o v hv => (HB4.out.cell (p := ⟨pb, po + j * 33 + o, none⟩) hpb).trans (hpr o v hv))
        have HPd := aside hpd
        have HFj : Hid (Calls Tryd.prog 8 #[.agg (totL (ts.getD j noTot).1 (ts.getD j noTot).2).toArray, .int .i64 j, .int .i64 k, .slice G m cg] wr (fun e w'' => e = .returned (.tuple #[tV x, .nilIface]) ∧ Below wr.heap.size wr w'')) := aside (HFold.out j hj G m cg wr HPs.out (HG.out.below HB4.out))
        generalize ts.getD j noTot = tj at HPr HPd HFj
        have hj' : (j : Int) < (k : Int) := by omega
        have hj0 : (0 : Int) ≤ (j : Int) := by omega
        have heq : ∀ W, (Op.equalIn 10000 25 (.agg (totR x.1 x.2)) (.agg (totR x.1 x.2))).run Tryd.prog W = .ok true W := fun W => by
          have h := tot_equal x.1 x.1 x.2 x.2 HRd.out.1 HRd.out.1 W
          simp at h
          exact h
        clear hs hpr hpd HFold HPath HRoot
        subst hA
        go_upto_region 17 with fail
        go_wp2_with (refine wpList_load_mid rfl 25 (.tmp 62) rfl pb (po + j * 33) rfl (totL tj.1 tj.2) _ HPr.out Tryd.underlying25 rfl (totLI HPd.out.1) ?_)
        refine HFj.out.mono ?_
        rintro e w6 ⟨rfl, hb6⟩
        have HB6 : Hid (Below w.heap.size w w6) := aside (HB4.out.trans (hb6.mono HB4.out.size))
        have T6 : Hid (TotAt w6 M x.1 x.2) := aside (T4.out.below hb6 T4.out.lt)
        have R6 := TotAt.new w6 0 zeroD
        clear hb6
        go_upto_region 18 with (first
          | (refine wpList_store_row rfl 25 (.tmp 12) (.tmp 69) rfl w6.heap.size (totR x.1 x.2) rfl rfl 25 (totR 0 zeroD) R6 (totInfo HRd.out.1) (tot_same rfl HRd.out.1) (totR_one _ _) ?_)
          | fail)
        have hB7 : Below w.heap.size w ((w6.alloc (.cells (totR 0 zeroD) 25)).setRow w6.heap.size (totR x.1 x.2)) := below_setRow (HB6.out.alloc HB6.out.size _) _ HB6.out.size _
        have T7' : TotAt ((w6.alloc (.cells (totR 0 zeroD) 25)).setRow w6.heap.size (totR x.1 x.2)) M x.1 x.2 := (T6.out.alloc _).otherRow _ (Nat.ne_of_lt T6.out.lt)
        have T8' : TotAt ((w6.alloc (.cells (totR 0 zeroD) 25)).setRow w6.heap.size (totR x.1 x.2)) w6.heap.size x.1 x.2 := R6.setRow
        change Code.wp _ _ _ _ ((w6.alloc (.cells (totR 0 zeroD) 25)).setRow w6.heap.size (totR x.1 x.2))
        clear R6
        generalize ((w6.alloc (.cells (totR 0 zeroD) 25)).setRow w6.heap.size (totR x.1 x.2)) = w7 at hB7 T7' T8' ⊢
        have HB7 := aside hB7
        have T7 := aside T7'
        have T8 := aside T8'
        clear hB7 T7' T8'
        go_wp2_with (first
          | (refine wpList_step fun K hK => ?_; rw [if_pos (by rfl)]; refine wp_load_row 25 (.tmp 12) rfl w6.heap.size rfl 25 (totR x.1 x.2) (0, 0) _ T8.out Tryd.underlying25 rfl (totInfo HRd.out.1) (hK _ _ ?_); clear hK K)
          | (refine wpList_step fun K hK => ?_; rw [if_pos (by rfl)]; refine wp_load_row 25 (.tmp 6) rfl M rfl 25 (totR x.1 x.2) (0, 0) _ T7.out Tryd.underlying25 rfl (totInfo HRd.out.1) (hK _ _ ?_); clear hK K)
          | fail)
        go_ret
        exact ⟨rfl, HB7.out⟩
      · subst hE
        clear HFold HPath HRoot
        by_cases i0 : i < 0
        · clear hr
          go_wp2
          go_ret
          exact ⟨rfl, HB4.out⟩
        · have i1 : (k : Int) ≤ i := by omega
          have i2 : (i < 0) = False := by simp only [eq_iff_iff, iff_false]; exact i0
          clear hr i0
          go_wp2
          go_ret
          exact ⟨rfl, HB4.out⟩
end Go.Proofs.YtkpbhbafapdboaaDoor
