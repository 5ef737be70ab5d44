/- The reference's path: the walk. Conditions: named in each theorem. -/
import Derived.Test.YtkpbhbafapdboaaDoorTelA
import Derived.Test.YtkpbhbafapdboaaDoorTwoB
import Derived.Test.YtkpbhbafapdboaaDoorAudT
namespace Go.Proofs.YtkpbhbafapdboaaDoor
open Go.RowKit Go.ChangeShapes Go.WideShapes Go.ChangeAt

theorem pathT_len9 : ∀ (f i : Nat) (ts : List Tot), (pathT f i ts).length ≤ f
  | 0, _, _ => Nat.le_refl _
  | f + 1, i, ts => by
    unfold pathT
    split
    · exact Nat.zero_le _
    · split
      · have := pathT_len9 f i (ts.take (halfN ts.length))
        simp only [List.length_cons]
        omega
      · have := pathT_len9 f (i - halfN ts.length) (ts.drop (halfN ts.length))
        simp only [List.length_cons]
        omega
theorem town_base {w : World} {base base' : Nat} {v : Value} {n : Nat} {ts : List Tot} (h : TOwn w base' v n ts) (hb : base ≤ base') : TOwn w base v n ts := by
  refine ⟨h.1, ?_⟩
  rcases h.2 with hn | ⟨g, cap, cur, e, hg, rest⟩
  · exact .inl hn
  · exact .inr ⟨g, cap, cur, e, Nat.le_trans hb hg, rest⟩
set_option maxHeartbeats 8000000 in
set_option maxRecDepth 100000 in
theorem rpath_any : ∀ (f : Nat) (ts : List Tot) (i : Nat), ts.length ≤ f → 1 ≤ ts.length → ts.length ≤ 256 → i < ts.length → (∀ t ∈ ts, Dig t.2) → ∀ (A : Option Addr) (n c : Nat) (w : World), n ≤ c → TSl w w.heap.size A n ts →
    Calls Tryd.prog 19 #[.slice A n c, .int .i64 i] w (fun e w' => ∃ v, e = .returned v ∧ TOwn w' w.heap.size v (path0 i ts).reverse.length (path0 i ts).reverse ∧ Below w.heap.size w w')
  | 0, ts, i, hf, h1, _, _, _, _, _, _, _, _, _ => by omega
  | f + 1, ts, i, hf, hl1, hn, hi, hd, A, n, c, w, hnc, h => by
    have ih := rpath_any f
    have hln := FSl.len totE_len (by decide) h
    have HD := aside hd
    have HSl := aside h
    have hn256 : n ≤ 256 := by omega
    clear hd h
    by_cases h1 : n = 1
    · subst h1
      rw [path0_one i ts (by omega)]
      clear ih
      go_enter Tryd.func19, Tryd.ntmps19
      go_wp2_with fail
      go_ret
      exact ⟨_, rfl, ⟨rfl, .inl ⟨rfl, rfl⟩⟩, Below.refl _ _⟩
    have e1 : ((n : Int) == 1) = false := by simp; omega
    obtain ⟨tb, to, hA, htb, -, -⟩ := TSl.at_ HSl.out HD.out (show 0 < n by omega)
    subst hA
    have hpath := path0_step i ts (by omega) hn
    rw [hln] at hpath
    have hh := half_lt (n := n) (by omega) hn256
    have HHalf := aside (rhalf_any n (by omega) hn256)
    generalize halfN n = k at hh HHalf hpath
    obtain ⟨k1, k2⟩ := hh
    have hib : (i : Int) ≤ 256 := by omega
    have hkb : (k : Int) ≤ 256 := by omega
    by_cases ci : i < k
    ·
      have HL1 : Hid (TSl w w.heap.size (some ⟨tb, to, none⟩) k (ts.take k)) := aside (HSl.out.take (Nat.le_of_lt k2))
      have HL2 : Hid (TSl w w.heap.size (some ⟨tb, to + k * 33, none⟩) (n - k) (ts.drop k)) := aside (HSl.out.drop k2)
      have HP : Hid (path0 i ts = (rootF 257 (ts.drop k)).1 :: path0 i (ts.take k)) := aside (by rw [hpath, if_pos ci])
      have HCr : Hid (∀ w', TSl w' w'.heap.size (some ⟨tb, to + k * 33, none⟩) (n - k) (ts.drop k) → Calls Tryd.prog 18 #[.slice (some ⟨tb, to + k * 33, none⟩) (n - k) (c - k)] w' (fun e w'' => e = .returned (.tuple #[tV (rootF 257 (ts.drop k)).1, .int .i64 (rootF 257 (ts.drop k)).2]) ∧ Below w'.heap.size w' w'')) := aside (fun w' h1 => rroot_any 257 (ts.drop k) (by first | (rw [List.length_drop]; omega) | (rw [List.length_take]; omega)) (by first | (rw [List.length_drop]; omega) | (rw [List.length_take]; omega)) (fun t ht => HD.out t (List.mem_of_mem_drop ht)) _ (n - k) (c - k) w' (by omega) h1)
      have HCp : Hid (∀ w', TSl w' w'.heap.size (some ⟨tb, to, none⟩) k (ts.take k) → Calls Tryd.prog 19 #[.slice (some ⟨tb, to, none⟩) k c, .int .i64 ((i : Nat) : Int)] w' (fun e w'' => ∃ v, e = .returned v ∧ TOwn w'' w'.heap.size v (path0 i (ts.take k)).reverse.length (path0 i (ts.take k)).reverse ∧ Below w'.heap.size w' w'')) := aside (fun w' h1 => ih (ts.take k) i (by first | (rw [List.length_drop]; omega) | (rw [List.length_take]; omega)) (by first | (rw [List.length_drop]; omega) | (rw [List.length_take]; omega)) (by first | (rw [List.length_drop]; omega) | (rw [List.length_take]; omega)) (by first | (rw [List.length_drop]; omega) | (rw [List.length_take]; omega)) (fun t ht => HD.out t (List.mem_of_mem_take ht)) _ k c w' (by omega) h1)
      have HD1 := aside (rootF_dig 257 (ts.drop k) (fun t ht => HD.out t (List.mem_of_mem_drop ht)))
      have hq9 : (path0 i (ts.take k)).reverse.length ≤ 257 := by rw [List.length_reverse]; exact pathT_len9 _ _ _
      generalize rootF 257 (ts.drop k) = r1 at HP HCr HD1
      obtain ⟨x1, q1⟩ := r1
      have HPs : Hid ((path0 i ts).reverse = (path0 i (ts.take k)).reverse ++ [x1]) := aside (by rw [HP.out, List.reverse_cons])
      generalize (path0 i (ts.take k)).reverse = ps at HPs HCp hq9
      have hkc : k ≤ c := by omega
      have hkn : k ≤ n := by omega
      clear ih HP hpath hi hf
      have lt1 : ((i : Int) < (k : Int)) = True := by simp only [eq_iff_iff, iff_true]; omega
      clear ci
      go_enter Tryd.func19, Tryd.ntmps19
      go_upto_region 6 with (first
        | (go_at_call 25; refine (HHalf.out _).mono ?_; rintro e w' ⟨rfl, hw'⟩; rw [hw']; clear hw' w')
        | (go_at_call 18; refine (HCr.out w HL2.out).mono ?_; rintro e w2 ⟨rfl, hb2⟩; have HB2 : Hid (Below w.heap.size w w2) := aside hb2; have R2 := TotAt.new w2 0 zeroD; clear hb2)
        | (refine wpList_store_row rfl 25 (.tmp 6) (.tmp 24) rfl w2.heap.size (totR x1.1 x1.2) rfl rfl 25 (totR 0 zeroD) R2 (totInfo HD1.out.1) (tot_same rfl HD1.out.1) (totR_one _ _) ?_)
        | fail)
      change Code.wp _ _ _ _ ((w2.alloc (.cells (totR 0 zeroD) 25)).setRow w2.heap.size (totR x1.1 x1.2))
      obtain ⟨w3, hw3⟩ : ∃ w3, w3 = ((w2.alloc (.cells (totR 0 zeroD) 25)).setRow w2.heap.size (totR x1.1 x1.2)) := ⟨_, rfl⟩
      obtain ⟨tn, bn, -⟩ := store_new w2 x1.1 x1.2 w3 hw3
      rw [← hw3]
      have TX : Hid (TotAt w3 w2.heap.size x1.1 x1.2) := aside tn
      have Hw3 : Hid (Below w.heap.size w w3) := aside (HB2.out.trans (bn.mono HB2.out.size))
      obtain ⟨X, hX⟩ : ∃ X, X = w2.heap.size := ⟨_, rfl⟩
      rw [← hX] at TX ⊢
      clear tn bn hw3 hX
      clear R2
      have hB0 : Below w3.heap.size w3 w3.drew := below_drawn (Below.refl _ _) 1
      have hl1 : ∀ W, Below w3.heap.size w3 W → TSl W W.heap.size (some ⟨tb, to, none⟩) k (ts.take k) := fun W hW => (Sl.below HL1.out (Hw3.out.trans (hW.mono Hw3.out.size))).more (Hw3.out.trans (hW.mono Hw3.out.size)).size
      have HLs := aside hl1
      clear hl1
      refine wp_region_noPanic ?_
      refine wp_region_held_drew (S := (fun w' => Below w3.heap.size w3 w')) (by kernel_rfl) hB0 (fun hS => ?_)
      refine wpAnyH_take (i := 0) (v := ?_) rfl (by kernel_rfl) (by kernel_rfl) (by kernel_rfl) (fun _ _ _ h => h) (Or.inl ⟨by rfl, ?_⟩) hS ?_
      rotate_left
      · (intro W hSw; (try dsimp only at hSw); go_simp; try with_reducible rfl)
      (repeat (first | simp only [List.getElem_toArray] | simp only [List.getElem_cons_succ] | simp only [List.getElem_cons_zero] | simp only [Act.put] | simp only [List.setIfInBounds_toArray] | simp only [List.set_cons_succ] | simp only [List.set_cons_zero]))
      refine wpAnyH_take (i := 1) (v := ?_) rfl (by kernel_rfl) (by kernel_rfl) (by kernel_rfl) (fun _ _ _ h => h) (Or.inl ⟨by rfl, ?_⟩) hS ?_
      rotate_left
      · (intro W hSw; (try dsimp only at hSw); go_simp; try with_reducible rfl)
      (repeat (first | simp only [List.getElem_toArray] | simp only [List.getElem_cons_succ] | simp only [List.getElem_cons_zero] | simp only [Act.put] | simp only [List.setIfInBounds_toArray] | simp only [List.set_cons_succ] | simp only [List.set_cons_zero]))
      refine wpAnyH_take (i := 2) (v := ?_) rfl (by kernel_rfl) (by kernel_rfl) (by kernel_rfl) (fun _ _ _ h => h) (Or.inl ⟨by rfl, ?_⟩) hS ?_
      rotate_left
      · (intro W hSw; (try dsimp only at hSw); go_simp; try with_reducible rfl)
      (repeat (first | simp only [List.getElem_toArray] | simp only [List.getElem_cons_succ] | simp only [List.getElem_cons_zero] | simp only [Act.put] | simp only [List.setIfInBounds_toArray] | simp only [List.set_cons_succ] | simp only [List.set_cons_zero]))
      refine wpAnyH_take (i := 3) (v := ?_) rfl (by kernel_rfl) (by kernel_rfl) (by kernel_rfl) (fun _ _ _ h => h) (Or.inl ⟨by rfl, ?_⟩) hS ?_
      rotate_left
      · (intro W hSw; (try dsimp only at hSw); go_simp; try with_reducible rfl)
      (repeat (first | simp only [List.getElem_toArray] | simp only [List.getElem_cons_succ] | simp only [List.getElem_cons_zero] | simp only [Act.put] | simp only [List.setIfInBounds_toArray] | simp only [List.set_cons_succ] | simp only [List.set_cons_zero]))
      refine wpAnyH_take (i := 5) (v := _) rfl (by kernel_rfl) (by kernel_rfl) (by kernel_rfl) (fun _ _ _ h => h) (yieldsIf_load_mid (by rfl) _ _ rfl X 0 rfl (totL x1.1 x1.2) _ (fun W hW => (TX.out.below hW TX.out.lt).range) Tryd.underlying25 rfl (totLI HD1.out.1)) hS ?_
      (repeat (first | simp only [List.getElem_toArray] | simp only [List.getElem_cons_succ] | simp only [List.getElem_cons_zero] | simp only [Act.put] | simp only [List.setIfInBounds_toArray] | simp only [List.set_cons_succ] | simp only [List.set_cons_zero]))
      refine wpAnyH_all (rs := [4, 6]) (by kernel_rfl) (by simp) ?_
      intro m hm
      simp only [List.mem_cons, List.not_mem_nil, or_false] at hm
      rcases hm with rfl | rfl
      · refine wpOp_of_list rfl ?_
        (repeat (first | simp only [List.getElem_toArray] | simp only [List.getElem_cons_succ] | simp only [List.getElem_cons_zero]))
        go_wp2_with (first
          | (go_at_call 19; refine (HCp.out w3.drew (HLs.out _ hB0)).mono ?_; rintro e wb ⟨v, rfl, hov, hbb⟩; obtain ⟨A', c', rfl, -, -⟩ := own_slice hov; have HOv : Hid (TOwn wb w3.heap.size (.slice A' ps.length c') ps.length ps) := aside hov; have hSb : Below w3.heap.size w3 wb := hB0.trans hbb; clear hov hbb)
          | fail)
        change _ ∧ _
        refine ⟨hSb, ?_⟩
        (try dsimp only)
        (repeat (first | simp only [List.getElem_toArray] | simp only [List.getElem_cons_succ] | simp only [List.getElem_cons_zero] | simp only [Act.put] | simp only [List.setIfInBounds_toArray] | simp only [List.set_cons_succ] | simp only [List.set_cons_zero]))
        refine wpAnyH_all (rs := [6]) (by kernel_rfl) (by simp) ?_
        intro m hm
        obtain rfl := List.mem_singleton.1 hm
        refine wpOp_of_list rfl ?_
        (repeat (first | simp only [List.getElem_toArray] | simp only [List.getElem_cons_succ] | simp only [List.getElem_cons_zero]))
        refine wpList_one rfl (.tmp 31) rfl x1.1 x1.2 rfl HD1.out.1 ?_
        change _ ∧ _
        refine ⟨hSb.alloc hSb.size _, ?_⟩
        (try dsimp only)
        (repeat (first | simp only [List.getElem_toArray] | simp only [List.getElem_cons_succ] | simp only [List.getElem_cons_zero] | simp only [Act.put] | simp only [List.setIfInBounds_toArray] | simp only [List.set_cons_succ] | simp only [List.set_cons_zero]))
        refine wpAnyH_all (rs := [7]) (by kernel_rfl) (by simp) ?_
        intro m hm
        obtain rfl := List.mem_singleton.1 hm
        refine wpOp_of_list rfl ?_
        (repeat (first | simp only [List.getElem_toArray] | simp only [List.getElem_cons_succ] | simp only [List.getElem_cons_zero]))
        refine wpList_push rfl (.tmp 30) (.tmp 32) 26 rfl w3.heap.size (.agg (totR 0 zeroD)) 33 40 Tryd.underlying26 totInfo3 rfl (by decide) _ ps.length _ rfl rfl (totR_size HD1.out.1) (tot_ones _ _) HOv.out (by omega) (by unfold maxLen; omega) hSb.size ?_
        intro A5 c5 w5 _ _ hown hb5 _ _
        have HO5 : Hid (TOwn w5 w3.heap.size (.slice A5 (ps.length + 1) c5) (ps.length + 1) (ps ++ [x1])) := aside (TOwn.push HD1.out.1 hown)
        have hS5 : Below w3.heap.size w3 w5 := hSb.trans hb5
        clear hown hb5
        change _ ∧ _
        refine ⟨hS5, ?_⟩
        (try dsimp only)
        (repeat (first | simp only [List.getElem_toArray] | simp only [List.getElem_cons_succ] | simp only [List.getElem_cons_zero] | simp only [Act.put] | simp only [List.setIfInBounds_toArray] | simp only [List.set_cons_succ] | simp only [List.set_cons_zero]))
        refine wpAnyH_take (i := 8) (v := ?_) rfl (by kernel_rfl) (by kernel_rfl) (by kernel_rfl) (fun _ _ _ h => h) (Or.inl ⟨by rfl, ?_⟩) hS5 ?_
        rotate_left
        · (intro W hSw; (try dsimp only at hSw); go_simp; try with_reducible rfl)
        (repeat (first | simp only [List.getElem_toArray] | simp only [List.getElem_cons_succ] | simp only [List.getElem_cons_zero] | simp only [Act.put] | simp only [List.setIfInBounds_toArray] | simp only [List.set_cons_succ] | simp only [List.set_cons_zero]))
        refine wpAnyH_done (by kernel_rfl) ?_ _
        refine NoPanic.normal ?_
        go_wp2_with fail
        go_ret
        refine ⟨_, rfl, ?_, Hw3.out.trans (hS5.mono Hw3.out.size)⟩
        rw [HPs.out]
        exact town_base (by simpa using HO5.out) Hw3.out.size
      · refine wpOp_of_list rfl ?_
        (repeat (first | simp only [List.getElem_toArray] | simp only [List.getElem_cons_succ] | simp only [List.getElem_cons_zero]))
        refine wpList_one rfl (.tmp 31) rfl x1.1 x1.2 rfl HD1.out.1 ?_
        have hSa : Below w3.heap.size w3 (w3.drew.alloc (.cells (totR x1.1 x1.2) 25)) := hB0.alloc hB0.size _
        have HOa : Hid (TOwn (w3.drew.alloc (.cells (totR x1.1 x1.2) 25)) w3.heap.size (.slice (some ⟨w3.drew.heap.size, 0, none⟩) 1 1) 1 [x1]) := aside (own_one w3.drew w3.heap.size (Nat.le_refl _) x1 HD1.out.1)
        change _ ∧ _
        refine ⟨hSa, ?_⟩
        (try dsimp only)
        (repeat (first | simp only [List.getElem_toArray] | simp only [List.getElem_cons_succ] | simp only [List.getElem_cons_zero] | simp only [Act.put] | simp only [List.setIfInBounds_toArray] | simp only [List.set_cons_succ] | simp only [List.set_cons_zero]))
        refine wpAnyH_all (rs := [4]) (by kernel_rfl) (by simp) ?_
        intro m hm
        obtain rfl := List.mem_singleton.1 hm
        refine wpOp_of_list rfl ?_
        (repeat (first | simp only [List.getElem_toArray] | simp only [List.getElem_cons_succ] | simp only [List.getElem_cons_zero]))
        go_wp2_with (first
          | (go_at_call 19; refine (HCp.out _ (HLs.out _ hSa)).mono ?_; rintro e wb ⟨v, rfl, hov, hbb⟩; obtain ⟨A', c', rfl, -, -⟩ := own_slice hov; have hSb : Below w3.heap.size w3 wb := hSa.trans (hbb.mono hSa.size); have HOv : Hid (TOwn wb w3.heap.size (.slice A' ps.length c') ps.length ps) := aside (town_base hov hSa.size); have HOb : Hid (TOwn wb w3.heap.size (.slice (some ⟨w3.drew.heap.size, 0, none⟩) 1 1) 1 [x1]) := aside (own_below HOa.out hbb); clear hov hbb)
          | fail)
        change _ ∧ _
        refine ⟨hSb, ?_⟩
        (try dsimp only)
        (repeat (first | simp only [List.getElem_toArray] | simp only [List.getElem_cons_succ] | simp only [List.getElem_cons_zero] | simp only [Act.put] | simp only [List.setIfInBounds_toArray] | simp only [List.set_cons_succ] | simp only [List.set_cons_zero]))
        refine wpAnyH_all (rs := [7]) (by kernel_rfl) (by simp) ?_
        intro m hm
        obtain rfl := List.mem_singleton.1 hm
        refine wpOp_of_list rfl ?_
        (repeat (first | simp only [List.getElem_toArray] | simp only [List.getElem_cons_succ] | simp only [List.getElem_cons_zero]))
        refine wpList_concat rfl (.tmp 30) (.tmp 32) 26 rfl w3.heap.size (.agg (totR 0 zeroD)) 33 40 Tryd.underlying26 totInfo3 rfl (by decide) _ ps.length _ rfl HOv.out wb.heap.size _ 1 1 _ rfl (Sl.own HOb.out) (onesT [x1]) (by omega) (by unfold maxLen; omega) hSb.size ?_
        intro A5 c5 w5 _ _ hown hb5 _
        have HO5 : Hid (TOwn w5 w3.heap.size (.slice A5 (ps.length + 1) c5) (ps ++ [x1]).length (ps ++ [x1])) := aside (town_concat (xs := ps) (ys := [x1]) (by simp) hown)
        have hS5 : Below w3.heap.size w3 w5 := hSb.trans hb5
        clear hown hb5
        change _ ∧ _
        refine ⟨hS5, ?_⟩
        (try dsimp only)
        (repeat (first | simp only [List.getElem_toArray] | simp only [List.getElem_cons_succ] | simp only [List.getElem_cons_zero] | simp only [Act.put] | simp only [List.setIfInBounds_toArray] | simp only [List.set_cons_succ] | simp only [List.set_cons_zero]))
        refine wpAnyH_take (i := 8) (v := ?_) rfl (by kernel_rfl) (by kernel_rfl) (by kernel_rfl) (fun _ _ _ h => h) (Or.inl ⟨by rfl, ?_⟩) hS5 ?_
        rotate_left
        · (intro W hSw; (try dsimp only at hSw); go_simp; try with_reducible rfl)
        (repeat (first | simp only [List.getElem_toArray] | simp only [List.getElem_cons_succ] | simp only [List.getElem_cons_zero] | simp only [Act.put] | simp only [List.setIfInBounds_toArray] | simp only [List.set_cons_succ] | simp only [List.set_cons_zero]))
        refine wpAnyH_done (by kernel_rfl) ?_ _
        refine NoPanic.normal ?_
        go_wp2_with fail
        go_ret
        refine ⟨_, rfl, ?_, Hw3.out.trans (hS5.mono Hw3.out.size)⟩
        rw [HPs.out]
        exact town_base HO5.out Hw3.out.size
    · obtain ⟨ik, hik⟩ : ∃ ik, ik = i - k := ⟨_, rfl⟩
      have HL1 : Hid (TSl w w.heap.size (some ⟨tb, to + k * 33, none⟩) (n - k) (ts.drop k)) := aside (HSl.out.drop k2)
      have HL2 : Hid (TSl w w.heap.size (some ⟨tb, to, none⟩) k (ts.take k)) := aside (HSl.out.take (Nat.le_of_lt k2))
      have HP : Hid (path0 i ts = (rootF 257 (ts.take k)).1 :: path0 ik (ts.drop k)) := aside (by rw [hpath, if_neg ci, ← hik])
      have HCr : Hid (∀ w', TSl w' w'.heap.size (some ⟨tb, to, none⟩) k (ts.take k) → Calls Tryd.prog 18 #[.slice (some ⟨tb, to, none⟩) k c] w' (fun e w'' => e = .returned (.tuple #[tV (rootF 257 (ts.take k)).1, .int .i64 (rootF 257 (ts.take k)).2]) ∧ Below w'.heap.size w' w'')) := aside (fun w' h1 => rroot_any 257 (ts.take k) (by first | (rw [List.length_drop]; omega) | (rw [List.length_take]; omega)) (by first | (rw [List.length_drop]; omega) | (rw [List.length_take]; omega)) (fun t ht => HD.out t (List.mem_of_mem_take ht)) _ k c w' (by omega) h1)
      have HCp : Hid (∀ w', TSl w' w'.heap.size (some ⟨tb, to + k * 33, none⟩) (n - k) (ts.drop k) → Calls Tryd.prog 19 #[.slice (some ⟨tb, to + k * 33, none⟩) (n - k) (c - k), .int .i64 ((ik : Nat) : Int)] w' (fun e w'' => ∃ v, e = .returned v ∧ TOwn w'' w'.heap.size v (path0 ik (ts.drop k)).reverse.length (path0 ik (ts.drop k)).reverse ∧ Below w'.heap.size w' w'')) := aside (fun w' h1 => ih (ts.drop k) ik (by first | (rw [List.length_drop]; omega) | (rw [List.length_take]; omega)) (by first | (rw [List.length_drop]; omega) | (rw [List.length_take]; omega)) (by first | (rw [List.length_drop]; omega) | (rw [List.length_take]; omega)) (by first | (rw [List.length_drop]; omega) | (rw [List.length_take]; omega)) (fun t ht => HD.out t (List.mem_of_mem_drop ht)) _ (n - k) (c - k) w' (by omega) h1)
      have HD1 := aside (rootF_dig 257 (ts.take k) (fun t ht => HD.out t (List.mem_of_mem_take ht)))
      have hq9 : (path0 ik (ts.drop k)).reverse.length ≤ 257 := by rw [List.length_reverse]; exact pathT_len9 _ _ _
      generalize rootF 257 (ts.take k) = r1 at HP HCr HD1
      obtain ⟨x1, q1⟩ := r1
      have HPs : Hid ((path0 i ts).reverse = (path0 ik (ts.drop k)).reverse ++ [x1]) := aside (by rw [HP.out, List.reverse_cons])
      generalize (path0 ik (ts.drop k)).reverse = ps at HPs HCp hq9
      have hkc : k ≤ c := by omega
      have hkn : k ≤ n := by omega
      clear ih HP hpath hi hf
      have lt1 : ((i : Int) < (k : Int)) = False := by simp only [eq_iff_iff, iff_false]; omega
      have e2 : (i : Int) - (k : Int) = (ik : Int) := by omega
      clear ci hik
      go_enter Tryd.func19, Tryd.ntmps19
      go_upto_region 8 with (first
        | (go_at_call 25; refine (HHalf.out _).mono ?_; rintro e w' ⟨rfl, hw'⟩; rw [hw']; clear hw' w')
        | (go_at_call 18; refine (HCr.out w HL2.out).mono ?_; rintro e w2 ⟨rfl, hb2⟩; have HB2 : Hid (Below w.heap.size w w2) := aside hb2; have R2 := TotAt.new w2 0 zeroD; clear hb2)
        | (refine wpList_store_row rfl 25 (.tmp 8) (.tmp 39) rfl w2.heap.size (totR x1.1 x1.2) rfl rfl 25 (totR 0 zeroD) R2 (totInfo HD1.out.1) (tot_same rfl HD1.out.1) (totR_one _ _) ?_)
        | fail)
      change Code.wp _ _ _ _ ((w2.alloc (.cells (totR 0 zeroD) 25)).setRow w2.heap.size (totR x1.1 x1.2))
      obtain ⟨w3, hw3⟩ : ∃ w3, w3 = ((w2.alloc (.cells (totR 0 zeroD) 25)).setRow w2.heap.size (totR x1.1 x1.2)) := ⟨_, rfl⟩
      obtain ⟨tn, bn, -⟩ := store_new w2 x1.1 x1.2 w3 hw3
      rw [← hw3]
      have TX : Hid (TotAt w3 w2.heap.size x1.1 x1.2) := aside tn
      have Hw3 : Hid (Below w.heap.size w w3) := aside (HB2.out.trans (bn.mono HB2.out.size))
      obtain ⟨X, hX⟩ : ∃ X, X = w2.heap.size := ⟨_, rfl⟩
      rw [← hX] at TX ⊢
      clear tn bn hw3 hX
      clear R2
      have hB0 : Below w3.heap.size w3 w3.drew := below_drawn (Below.refl _ _) 1
      have hl1 : ∀ W, Below w3.heap.size w3 W → TSl W W.heap.size (some ⟨tb, to + k * 33, none⟩) (n - k) (ts.drop k) := fun W hW => (Sl.below HL1.out (Hw3.out.trans (hW.mono Hw3.out.size))).more (Hw3.out.trans (hW.mono Hw3.out.size)).size
      have HLs := aside hl1
      clear hl1
      refine wp_region_noPanic ?_
      refine wp_region_held_drew (S := (fun w' => Below w3.heap.size w3 w')) (by kernel_rfl) hB0 (fun hS => ?_)
      refine wpAnyH_take (i := 0) (v := ?_) rfl (by kernel_rfl) (by kernel_rfl) (by kernel_rfl) (fun _ _ _ h => h) (Or.inl ⟨by rfl, ?_⟩) hS ?_
      rotate_left
      · (intro W hSw; (try dsimp only at hSw); go_simp; try with_reducible rfl)
      (repeat (first | simp only [List.getElem_toArray] | simp only [List.getElem_cons_succ] | simp only [List.getElem_cons_zero] | simp only [Act.put] | simp only [List.setIfInBounds_toArray] | simp only [List.set_cons_succ] | simp only [List.set_cons_zero]))
      refine wpAnyH_take (i := 1) (v := ?_) rfl (by kernel_rfl) (by kernel_rfl) (by kernel_rfl) (fun _ _ _ h => h) (Or.inl ⟨by rfl, ?_⟩) hS ?_
      rotate_left
      · (intro W hSw; (try dsimp only at hSw); go_simp; try with_reducible rfl)
      (repeat (first | simp only [List.getElem_toArray] | simp only [List.getElem_cons_succ] | simp only [List.getElem_cons_zero] | simp only [Act.put] | simp only [List.setIfInBounds_toArray] | simp only [List.set_cons_succ] | simp only [List.set_cons_zero]))
      refine wpAnyH_take (i := 2) (v := ?_) rfl (by kernel_rfl) (by kernel_rfl) (by kernel_rfl) (fun _ _ _ h => h) (Or.inl ⟨by rfl, ?_⟩) hS ?_
      rotate_left
      · (intro W hSw; (try dsimp only at hSw); go_simp; try with_reducible rfl)
      (repeat (first | simp only [List.getElem_toArray] | simp only [List.getElem_cons_succ] | simp only [List.getElem_cons_zero] | simp only [Act.put] | simp only [List.setIfInBounds_toArray] | simp only [List.set_cons_succ] | simp only [List.set_cons_zero]))
      refine wpAnyH_take (i := 3) (v := ?_) rfl (by kernel_rfl) (by kernel_rfl) (by kernel_rfl) (fun _ _ _ h => h) (Or.inl ⟨by rfl, ?_⟩) hS ?_
      rotate_left
      · (intro W hSw; (try dsimp only at hSw); go_simp; try with_reducible rfl)
      (repeat (first | simp only [List.getElem_toArray] | simp only [List.getElem_cons_succ] | simp only [List.getElem_cons_zero] | simp only [Act.put] | simp only [List.setIfInBounds_toArray] | simp only [List.set_cons_succ] | simp only [List.set_cons_zero]))
      refine wpAnyH_take (i := 4) (v := ?_) rfl (by kernel_rfl) (by kernel_rfl) (by kernel_rfl) (fun _ _ _ h => h) (Or.inl ⟨by rfl, ?_⟩) hS ?_
      rotate_left
      · (intro W hSw; (try dsimp only at hSw); go_simp; try with_reducible rfl)
      (repeat (first | simp only [List.getElem_toArray] | simp only [List.getElem_cons_succ] | simp only [List.getElem_cons_zero] | simp only [Act.put] | simp only [List.setIfInBounds_toArray] | simp only [List.set_cons_succ] | simp only [List.set_cons_zero]))
      refine wpAnyH_take (i := 5) (v := ?_) rfl (by kernel_rfl) (by kernel_rfl) (by kernel_rfl) (fun _ _ _ h => h) (Or.inl ⟨by rfl, ?_⟩) hS ?_
      rotate_left
      · (intro W hSw; (try dsimp only at hSw); go_simp; try with_reducible rfl)
      (repeat (first | simp only [List.getElem_toArray] | simp only [List.getElem_cons_succ] | simp only [List.getElem_cons_zero] | simp only [Act.put] | simp only [List.setIfInBounds_toArray] | simp only [List.set_cons_succ] | simp only [List.set_cons_zero]))
      refine wpAnyH_take (i := 7) (v := _) rfl (by kernel_rfl) (by kernel_rfl) (by kernel_rfl) (fun _ _ _ h => h) (yieldsIf_load_mid (by rfl) _ _ rfl X 0 rfl (totL x1.1 x1.2) _ (fun W hW => (TX.out.below hW TX.out.lt).range) Tryd.underlying25 rfl (totLI HD1.out.1)) hS ?_
      (repeat (first | simp only [List.getElem_toArray] | simp only [List.getElem_cons_succ] | simp only [List.getElem_cons_zero] | simp only [Act.put] | simp only [List.setIfInBounds_toArray] | simp only [List.set_cons_succ] | simp only [List.set_cons_zero]))
      refine wpAnyH_all (rs := [6, 8]) (by kernel_rfl) (by simp) ?_
      intro m hm
      simp only [List.mem_cons, List.not_mem_nil, or_false] at hm
      rcases hm with rfl | rfl
      · refine wpOp_of_list rfl ?_
        (repeat (first | simp only [List.getElem_toArray] | simp only [List.getElem_cons_succ] | simp only [List.getElem_cons_zero]))
        go_wp2_with (first
          | (go_at_call 19; refine (HCp.out w3.drew (HLs.out _ hB0)).mono ?_; rintro e wb ⟨v, rfl, hov, hbb⟩; obtain ⟨A', c', rfl, -, -⟩ := own_slice hov; have HOv : Hid (TOwn wb w3.heap.size (.slice A' ps.length c') ps.length ps) := aside hov; have hSb : Below w3.heap.size w3 wb := hB0.trans hbb; clear hov hbb)
          | fail)
        change _ ∧ _
        refine ⟨hSb, ?_⟩
        (try dsimp only)
        (repeat (first | simp only [List.getElem_toArray] | simp only [List.getElem_cons_succ] | simp only [List.getElem_cons_zero] | simp only [Act.put] | simp only [List.setIfInBounds_toArray] | simp only [List.set_cons_succ] | simp only [List.set_cons_zero]))
        refine wpAnyH_all (rs := [8]) (by kernel_rfl) (by simp) ?_
        intro m hm
        obtain rfl := List.mem_singleton.1 hm
        refine wpOp_of_list rfl ?_
        (repeat (first | simp only [List.getElem_toArray] | simp only [List.getElem_cons_succ] | simp only [List.getElem_cons_zero]))
        refine wpList_one rfl (.tmp 48) rfl x1.1 x1.2 rfl HD1.out.1 ?_
        change _ ∧ _
        refine ⟨hSb.alloc hSb.size _, ?_⟩
        (try dsimp only)
        (repeat (first | simp only [List.getElem_toArray] | simp only [List.getElem_cons_succ] | simp only [List.getElem_cons_zero] | simp only [Act.put] | simp only [List.setIfInBounds_toArray] | simp only [List.set_cons_succ] | simp only [List.set_cons_zero]))
        refine wpAnyH_all (rs := [9]) (by kernel_rfl) (by simp) ?_
        intro m hm
        obtain rfl := List.mem_singleton.1 hm
        refine wpOp_of_list rfl ?_
        (repeat (first | simp only [List.getElem_toArray] | simp only [List.getElem_cons_succ] | simp only [List.getElem_cons_zero]))
        refine wpList_push rfl (.tmp 47) (.tmp 49) 26 rfl w3.heap.size (.agg (totR 0 zeroD)) 33 40 Tryd.underlying26 totInfo3 rfl (by decide) _ ps.length _ rfl rfl (totR_size HD1.out.1) (tot_ones _ _) HOv.out (by omega) (by unfold maxLen; omega) hSb.size ?_
        intro A5 c5 w5 _ _ hown hb5 _ _
        have HO5 : Hid (TOwn w5 w3.heap.size (.slice A5 (ps.length + 1) c5) (ps.length + 1) (ps ++ [x1])) := aside (TOwn.push HD1.out.1 hown)
        have hS5 : Below w3.heap.size w3 w5 := hSb.trans hb5
        clear hown hb5
        change _ ∧ _
        refine ⟨hS5, ?_⟩
        (try dsimp only)
        (repeat (first | simp only [List.getElem_toArray] | simp only [List.getElem_cons_succ] | simp only [List.getElem_cons_zero] | simp only [Act.put] | simp only [List.setIfInBounds_toArray] | simp only [List.set_cons_succ] | simp only [List.set_cons_zero]))
        refine wpAnyH_take (i := 10) (v := ?_) rfl (by kernel_rfl) (by kernel_rfl) (by kernel_rfl) (fun _ _ _ h => h) (Or.inl ⟨by rfl, ?_⟩) hS5 ?_
        rotate_left
        · (intro W hSw; (try dsimp only at hSw); go_simp; try with_reducible rfl)
        (repeat (first | simp only [List.getElem_toArray] | simp only [List.getElem_cons_succ] | simp only [List.getElem_cons_zero] | simp only [Act.put] | simp only [List.setIfInBounds_toArray] | simp only [List.set_cons_succ] | simp only [List.set_cons_zero]))
        refine wpAnyH_done (by kernel_rfl) ?_ _
        refine NoPanic.normal ?_
        go_wp2_with fail
        go_ret
        refine ⟨_, rfl, ?_, Hw3.out.trans (hS5.mono Hw3.out.size)⟩
        rw [HPs.out]
        exact town_base (by simpa using HO5.out) Hw3.out.size
      · refine wpOp_of_list rfl ?_
        (repeat (first | simp only [List.getElem_toArray] | simp only [List.getElem_cons_succ] | simp only [List.getElem_cons_zero]))
        refine wpList_one rfl (.tmp 48) rfl x1.1 x1.2 rfl HD1.out.1 ?_
        have hSa : Below w3.heap.size w3 (w3.drew.alloc (.cells (totR x1.1 x1.2) 25)) := hB0.alloc hB0.size _
        have HOa : Hid (TOwn (w3.drew.alloc (.cells (totR x1.1 x1.2) 25)) w3.heap.size (.slice (some ⟨w3.drew.heap.size, 0, none⟩) 1 1) 1 [x1]) := aside (own_one w3.drew w3.heap.size (Nat.le_refl _) x1 HD1.out.1)
        change _ ∧ _
        refine ⟨hSa, ?_⟩
        (try dsimp only)
        (repeat (first | simp only [List.getElem_toArray] | simp only [List.getElem_cons_succ] | simp only [List.getElem_cons_zero] | simp only [Act.put] | simp only [List.setIfInBounds_toArray] | simp only [List.set_cons_succ] | simp only [List.set_cons_zero]))
        refine wpAnyH_all (rs := [6]) (by kernel_rfl) (by simp) ?_
        intro m hm
        obtain rfl := List.mem_singleton.1 hm
        refine wpOp_of_list rfl ?_
        (repeat (first | simp only [List.getElem_toArray] | simp only [List.getElem_cons_succ] | simp only [List.getElem_cons_zero]))
        go_wp2_with (first
          | (go_at_call 19; refine (HCp.out _ (HLs.out _ hSa)).mono ?_; rintro e wb ⟨v, rfl, hov, hbb⟩; obtain ⟨A', c', rfl, -, -⟩ := own_slice hov; have hSb : Below w3.heap.size w3 wb := hSa.trans (hbb.mono hSa.size); have HOv : Hid (TOwn wb w3.heap.size (.slice A' ps.length c') ps.length ps) := aside (town_base hov hSa.size); have HOb : Hid (TOwn wb w3.heap.size (.slice (some ⟨w3.drew.heap.size, 0, none⟩) 1 1) 1 [x1]) := aside (own_below HOa.out hbb); clear hov hbb)
          | fail)
        change _ ∧ _
        refine ⟨hSb, ?_⟩
        (try dsimp only)
        (repeat (first | simp only [List.getElem_toArray] | simp only [List.getElem_cons_succ] | simp only [List.getElem_cons_zero] | simp only [Act.put] | simp only [List.setIfInBounds_toArray] | simp only [List.set_cons_succ] | simp only [List.set_cons_zero]))
        refine wpAnyH_all (rs := [9]) (by kernel_rfl) (by simp) ?_
        intro m hm
        obtain rfl := List.mem_singleton.1 hm
        refine wpOp_of_list rfl ?_
        (repeat (first | simp only [List.getElem_toArray] | simp only [List.getElem_cons_succ] | simp only [List.getElem_cons_zero]))
        refine wpList_concat rfl (.tmp 47) (.tmp 49) 26 rfl w3.heap.size (.agg (totR 0 zeroD)) 33 40 Tryd.underlying26 totInfo3 rfl (by decide) _ ps.length _ rfl HOv.out wb.heap.size _ 1 1 _ rfl (Sl.own HOb.out) (onesT [x1]) (by omega) (by unfold maxLen; omega) hSb.size ?_
        intro A5 c5 w5 _ _ hown hb5 _
        have HO5 : Hid (TOwn w5 w3.heap.size (.slice A5 (ps.length + 1) c5) (ps ++ [x1]).length (ps ++ [x1])) := aside (town_concat (xs := ps) (ys := [x1]) (by simp) hown)
        have hS5 : Below w3.heap.size w3 w5 := hSb.trans hb5
        clear hown hb5
        change _ ∧ _
        refine ⟨hS5, ?_⟩
        (try dsimp only)
        (repeat (first | simp only [List.getElem_toArray] | simp only [List.getElem_cons_succ] | simp only [List.getElem_cons_zero] | simp only [Act.put] | simp only [List.setIfInBounds_toArray] | simp only [List.set_cons_succ] | simp only [List.set_cons_zero]))
        refine wpAnyH_take (i := 10) (v := ?_) rfl (by kernel_rfl) (by kernel_rfl) (by kernel_rfl) (fun _ _ _ h => h) (Or.inl ⟨by rfl, ?_⟩) hS5 ?_
        rotate_left
        · (intro W hSw; (try dsimp only at hSw); go_simp; try with_reducible rfl)
        (repeat (first | simp only [List.getElem_toArray] | simp only [List.getElem_cons_succ] | simp only [List.getElem_cons_zero] | simp only [Act.put] | simp only [List.setIfInBounds_toArray] | simp only [List.set_cons_succ] | simp only [List.set_cons_zero]))
        refine wpAnyH_done (by kernel_rfl) ?_ _
        refine NoPanic.normal ?_
        go_wp2_with fail
        go_ret
        refine ⟨_, rfl, ?_, Hw3.out.trans (hS5.mono Hw3.out.size)⟩
        rw [HPs.out]
        exact town_base HO5.out Hw3.out.size
end Go.Proofs.YtkpbhbafapdboaaDoor
