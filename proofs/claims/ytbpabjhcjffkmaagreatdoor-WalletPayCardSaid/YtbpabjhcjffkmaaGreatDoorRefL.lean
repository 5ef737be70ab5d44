/- The reference's digests of digests, and of steps: the walks. Conditions: named in each theorem. The reference's digest with a key: the walk. Conditions: named in each theorem. The reference's one-time keys: secrets, public keys: the walks. Conditions: named in each theorem. -/
import Derived.Test.YtbpabjhcjffkmaaGreatDoorRefE
import Derived.Test.YtbpabjhcjffkmaaGreatDoorPubB
/- The reference's digests of digests, and of steps: the walks. Conditions: named in each theorem. -/
namespace Go.Proofs.YtbpabjhcjffkmaaGreatDoor
open Go.RowKit Go.ChangeShapes Go.WideShapes Go.ChangeAt

set_option maxHeartbeats 20000000 in
set_option maxRecDepth 100000 in
theorem rof_any (t : Nat) (ht : t < 256) (ds : List (List Nat)) (hd : ∀ d ∈ ds, d.length = 32 ∧ ∀ x ∈ d, x < 256) (A : Option Addr) (n c : Nat) (hn : n ≤ 100) (w : World) (h : GSl w w.heap.size A n ds) (hg : RoundsAt w) :
  Calls Tryz.prog 97 #[.int .u8 (t : Int), .slice A n c] w (fun e w' => e = .returned (digV (ofL t ds)) ∧ Below w.heap.size w w') := by
 have hln := FSl.len digC_len (by decide) h
 have hr : 1 < w.heap.size := by
  obtain ⟨T, fr, -, h2⟩ := hg
  exact h2
 have HD := aside hd
 have HLn := aside hln
 have H := aside h
 have HG := aside hg
 have B1 : Hid (Below w.heap.size w ((w.alloc (.cells (rowY (List.replicate 32 0)) 23)).alloc (.cells #[.int .u8 (t : Int)] 5))) := aside (((Below.refl _ _).alloc (Nat.le_refl _) _).alloc (by simp) _)
 have D0 : Hid (BlkY ((w.alloc (.cells (rowY (List.replicate 32 0)) 23)).alloc (.cells #[.int .u8 (t : Int)] 5)) w.heap.size 23 (List.replicate 32 0)) := aside ((BlkY.new w _ _).alloc _)
 have Z1 : Hid (((w.alloc (.cells (rowY (List.replicate 32 0)) 23)).alloc (.cells #[.int .u8 (t : Int)] 5)).heap.size = w.heap.size + 2) := aside (by simp)
 have HO : Hid (YRow ((w.alloc (.cells (rowY (List.replicate 32 0)) 23)).alloc (.cells #[.int .u8 (t : Int)] 5)) (w.heap.size + 1) (.slice (some ⟨w.heap.size + 1, 0, none⟩) 1 1) 1 (t :: (ds.take 0).flatMap id)) := aside (by
  have h : (w.alloc (.cells (rowY (List.replicate 32 0)) 23)).heap.size = w.heap.size + 1 := by simp
  refine ⟨rfl, .inr ⟨w.heap.size + 1, 1, #[.int .u8 (t : Int)], rfl, Nat.le_refl _, ?_, Nat.le_refl _, by decide, rfl, rfl⟩⟩
  have h2 := heap_alloc_new (w.alloc (.cells (rowY (List.replicate 32 0)) 23)) (.cells #[.int .u8 (t : Int)] 5)
  rwa [h] at h2)
 clear h hd hln hg
 go_enter Tryz.func97, Tryz.ntmps97
 go_wp2_with fail
 change Code.wp _ _ _ _ ((w.alloc (.cells (rowY (List.replicate 32 0)) 23)).alloc (.cells #[.int .u8 (t : Int)] 5))
 generalize ((w.alloc (.cells (rowY (List.replicate 32 0)) 23)).alloc (.cells #[.int .u8 (t : Int)] 5)) = w1 at B1 D0 Z1 HO ⊢
 obtain ⟨B0, hB0⟩ : ∃ B0, B0 = w.heap.size := ⟨_, rfl⟩
 have EB := aside hB0
 simp only [← hB0] at D0 Z1 HO ⊢
 rw [← hB0] at hr
 clear hB0
 go_loopw [5, 6] (fun v5 v6 wr => ∃ (i m : Nat) (A1 : Option Addr) (c1 : Nat), i ≤ n ∧ m = 1 + 32 * i ∧ v6 = .int .i64 i ∧ v5 = .slice A1 m c1 ∧ B0 + 2 ≤ wr.heap.size ∧ Hid (YRow wr (B0 + 1) (.slice A1 m c1) m (t :: (ds.take i).flatMap id)) ∧ Hid (BlkY wr B0 23 (List.replicate 32 0)) ∧ Hid (Below w.heap.size w wr)) (fun _ v6 _ => n - (Go.RowKit.intOf v6).toNat)
 case atStart => exact ⟨0, 1, _, 1, Nat.zero_le _, rfl, rfl, rfl, by rw [Z1.out]; exact Nat.le_refl _, HO, D0, B1⟩
 case round =>
  clear HO D0 B1 Z1
  obtain ⟨i, m, A1, c1, hi, hm, rfl, rfl, hz, HO, D0, HB⟩ := hrel
  have Hm := aside hm
  have hm7 : m ≤ 10000 := by omega
  clear hm
  by_cases hin : i < n
  ·have i0 : (i : Int) < (n : Int) := by omega
   obtain ⟨b, off, hAe, hbl, hrg⟩ := GSl.range (FSl.below H.out HB.out) hin
   have hdm := HD.out _ (getD_dig (ds := ds) (k := i) (by have := HLn.out; omega))
   have HTk := aside (take_dig (ds := ds) (k := i) (by have := HLn.out; omega))
   generalize ds.getD i [] = d at hrg hdm HTk
   have HRg := aside hrg
   have hdl := hdm.1
   have HDc : Hid ((digC d).toArray = rowY d) := aside (digC_row hdm.1)
   have HS1 : Hid ((Tryz.prog.info? 23).map (·.size) = some (digC d).length) := aside (by rw [digC_len]; kernel_rfl)
   have HS9 : Hid ((Tryz.prog.info? 23).map (·.size) = some (digC d).toArray.size) := aside (by simp only [List.size_toArray, digC_len]; kernel_rfl)
   have HS8 : Hid ((rowY (List.replicate 32 0)).size = (digC d).toArray.size) := aside (by simp only [List.size_toArray, digC_len]; rfl)
   have HO1 : Hid ((digC d).toArray.all (·.oneCell') = true) := aside (all_oneCell_toArray (digC_one d))
   have DX := aside (BlkY.new wr 23 (List.replicate 32 0))
   subst hAe
   clear hrg hdm hbl
   go_upto_region 6 with (first
    | (refine wpList_load_mid rfl 23 (.tmp 18) rfl b (off + i * 32) rfl (digC d) _ HRg.out Tryz.underlying23 rfl HS1.out ?_)
    | (refine wpList_store_row rfl 23 (.tmp 7) (.tmp 19) rfl wr.heap.size (digC d).toArray rfl rfl 23 (rowY (List.replicate 32 0)) DX.out HS9.out HS8.out HO1.out ?_)
    | fail)
   have HB2 : Hid (Below w.heap.size w ((wr.alloc (.cells (rowY (List.replicate 32 0)) 23)).setRow wr.heap.size (digC d).toArray)) := aside (below_setRow (HB.out.alloc HB.out.size _) _ HB.out.size _)
   have DX2 : Hid (BlkY ((wr.alloc (.cells (rowY (List.replicate 32 0)) 23)).setRow wr.heap.size (digC d).toArray) wr.heap.size 23 d) := aside (by rw [HDc.out]; exact setRow_heap _ _ _ _ _ _ DX.out)
   have D02 : Hid (BlkY ((wr.alloc (.cells (rowY (List.replicate 32 0)) 23)).setRow wr.heap.size (digC d).toArray) B0 23 (List.replicate 32 0)) := aside ((setRow_other _ _ _ _ (by omega)).trans (D0.out.alloc _))
   have hzz : wr.heap.size ≤ ((wr.alloc (.cells (rowY (List.replicate 32 0)) 23)).setRow wr.heap.size (digC d).toArray).heap.size := Nat.le_of_lt DX2.out.lt
   have HO2 : Hid (YRow ((wr.alloc (.cells (rowY (List.replicate 32 0)) 23)).setRow wr.heap.size (digC d).toArray) (B0 + 1) (.slice A1 m c1) m (t :: (ds.take i).flatMap id)) := aside (own_below HO.out (below_setRow ((Below.refl _ _).alloc (Nat.le_refl _) _) _ (Nat.le_refl _) _))
   change Code.wp _ _ _ _ ((wr.alloc (.cells (rowY (List.replicate 32 0)) 23)).setRow wr.heap.size (digC d).toArray)
   generalize ((wr.alloc (.cells (rowY (List.replicate 32 0)) 23)).setRow wr.heap.size (digC d).toArray) = w2 at HB2 DX2 D02 hzz HO2 ⊢
   obtain ⟨bx, hbx⟩ : ∃ bx, bx = wr.heap.size := ⟨_, rfl⟩
   rw [← hbx] at DX2 hz hzz ⊢
   clear hbx HO D0 HB DX
   have HSd : Hid (YSl w2 w2.heap.size (some ⟨bx, 0, none⟩) 32 d) := aside (DX2.out.sl hdl DX2.out.lt)
   have H1d : Hid (∀ u ∈ d.flatMap byV, u.oneCell' = true) := aside (fun u hu => by
    obtain ⟨x, -, hx⟩ := List.mem_flatMap.1 hu
    simp only [byV, List.mem_singleton] at hx
    rw [hx]; rfl)
   go_wp2_with (first
    | (at_builtin; refine wpList_concat rfl (.tmp 20) (.tmp 21) 67 rfl (B0 + 1) (.int .u8 0) 1 1 Tryz.underlying67 byteInfo rfl (by decide) _ m _ rfl HO2.out w2.heap.size (some ⟨bx, 0, none⟩) 32 32 _ rfl HSd.out H1d.out (by omega) (by unfold maxLen; omega) (by omega) ?_; intro A3 c3 w3 hc3 hc3' hown3 hb3 hg3)
    | fail)
   have HO3 : Hid (YRow w3 (B0 + 1) (.slice A3 (m + 32) c3) (m + 32) (t :: (ds.take (i + 1)).flatMap id)) := aside (by
    rw [HTk.out]
    show w3.ownsRow _ _ _ _ _ _
    rw [show t :: ((ds.take i).flatMap id ++ d) = (t :: (ds.take i).flatMap id) ++ d from rfl, List.flatMap_append]
    exact hown3)
   have HB3 := aside (HB2.out.trans (hb3.mono (by rw [EB.out]; omega)))
   have D03 := aside (D02.out.below hb3 (by omega))
   have hz3 := Nat.le_trans (Nat.le_trans hz hzz) hb3.size
   clear hown3 hb3 hg3
   exact ⟨⟨i + 1, m + 32, A3, c3, by omega, by rw [Hm.out]; omega, by go_num, rfl, hz3, HO3, D03, HB3⟩, by simp [Go.RowKit.intOf]; omega⟩
  ·obtain rfl : n = i := by omega
   have i0 : ((n : Int) < (n : Int)) = False := by simp
   have HTn : Hid ((t :: (ds.take n).flatMap id) = t :: ds.flatMap id) := aside (by rw [← HLn.out, List.take_length])
   have hY := Sl.own HO.out
   have hby : ∀ x ∈ t :: ds.flatMap id, x < 256 := fun x hx => by
    rcases List.mem_cons.1 hx with rfl | hx
    ·exact ht
    ·obtain ⟨d, hd, hx⟩ := List.mem_flatMap.1 hx
     exact (HD.out d hd).2 x hx
   rw [HTn.out] at hY
   have HSh := aside (rsum_any (t :: ds.flatMap id) A1 m c1 wr hY (by omega) hby)
   clear hY hby HO
   go_wp2_with fail
   refine HSh.out.mono ?_
   rintro e w9 ⟨rfl, hb9⟩
   have HB9 : Hid (Below w.heap.size w w9) := aside (HB.out.trans (hb9.mono HB.out.size))
   have D09 := aside (D0.out.below hb9 D0.out.lt)
   change Hid (BlkY w9 B0 23 (List.replicate 32 0)) at D09
   obtain ⟨X, hX⟩ : ∃ X, X = ofL t ds := ⟨_, rfl⟩
   rw [show shaL (t :: ds.flatMap id) = X from hX.symm]
   have HX := aside hX
   have hXl : X.length = 32 := by rw [hX]; exact ofL_len _ _
   have HS9 : Hid ((Tryz.prog.info? 23).map (·.size) = some (rowY X).size) := aside (by rw [rowY_size, hXl]; kernel_rfl)
   have HS8 : Hid ((rowY (List.replicate 32 0)).size = (rowY X).size) := aside (by rw [rowY_size, rowY_size, hXl]; rfl)
   clear hb9 HSh hX
   go_wp2_with (first
    | (refine wpList_store_row rfl 23 (.tmp 4) (.tmp 24) rfl B0 (rowY X) rfl rfl 23 (rowY (List.replicate 32 0)) D09.out HS9.out HS8.out (rowY_one _) ?_)
    | fail)
   refine bodyPost_ret (results_cell_row rfl _ _ B0 23 (rowY X) (0, 0) _ rfl (setRow_heap w9 B0 _ _ _ _ D09.out) Tryz.underlying23 rfl HS9.out) rfl ?_
   exact ⟨by rw [← HX.out] <;> rfl, below_setRow HB9.out _ (by rw [EB.out]; exact Nat.le_refl _) _⟩
set_option maxHeartbeats 20000000 in
set_option maxRecDepth 100000 in
theorem rstep_any (d : List Nat) (hd : d.length = 32) (hb : ∀ x ∈ d, x < 256) (n : Nat) (hn : n ≤ 1000) (w : World) (hg : RoundsAt w) :
  Calls Tryz.prog 52 #[digV d, .int .i64 (n : Int)] w (fun e w' => e = .returned (digV (stepL n d)) ∧ Below w.heap.size w w') := by
 have hr : 1 < w.heap.size := by
  obtain ⟨T, fr, -, h2⟩ := hg
  exact h2
 have HG := aside hg
 have HDl := aside hd
 have HDb := aside hb
 have B1 : Hid (Below w.heap.size w ((w.alloc (.cells (rowY d) 23)).alloc (.cells (rowY (List.replicate 32 0)) 23))) := aside (((Below.refl _ _).alloc (Nat.le_refl _) _).alloc (by simp) _)
 have D0 : Hid (BlkY ((w.alloc (.cells (rowY d) 23)).alloc (.cells (rowY (List.replicate 32 0)) 23)) w.heap.size 23 (stepL 0 d)) := aside ((BlkY.new w _ _).alloc _)
 have D1 : Hid (BlkY ((w.alloc (.cells (rowY d) 23)).alloc (.cells (rowY (List.replicate 32 0)) 23)) (w.heap.size + 1) 23 (List.replicate 32 0)) := aside (by
  have h := BlkY.new (w.alloc (.cells (rowY d) 23)) 23 (List.replicate 32 0)
  rwa [show (w.alloc (.cells (rowY d) 23)).heap.size = w.heap.size + 1 by simp] at h)
 have Z1 : Hid (w.heap.size + 2 ≤ ((w.alloc (.cells (rowY d) 23)).alloc (.cells (rowY (List.replicate 32 0)) 23)).heap.size) := aside (by simp)
 clear hg hb hd
 unfold digV
 go_enter Tryz.func52, Tryz.ntmps52
 go_wp2_with fail
 change Code.wp _ _ _ _ ((w.alloc (.cells (rowY d) 23)).alloc (.cells (rowY (List.replicate 32 0)) 23))
 generalize ((w.alloc (.cells (rowY d) 23)).alloc (.cells (rowY (List.replicate 32 0)) 23)) = w1 at B1 D0 D1 Z1 ⊢
 obtain ⟨B0, hB0⟩ : ∃ B0, B0 = w.heap.size := ⟨_, rfl⟩
 have EB := aside hB0
 simp only [← hB0] at D0 D1 Z1 ⊢
 rw [← hB0] at hr
 clear hB0
 go_loopw [5] (fun v5 wr => ∃ (k i : Nat), k + i = n ∧ v5 = .int .i64 i ∧ B0 + 2 ≤ wr.heap.size ∧ Hid (BlkY wr B0 23 (stepL i d)) ∧ Hid (BlkY wr (B0 + 1) 23 (List.replicate 32 0)) ∧ Hid (Below w.heap.size w wr)) (fun v5 _ => n - (Go.RowKit.intOf v5).toNat)
 case atStart => exact ⟨n, 0, rfl, rfl, Z1.out, D0, D1, B1⟩
 case round =>
  clear D0 D1 B1 Z1
  obtain ⟨k, i, hki, rfl, hz, D0, D1, HB⟩ := hrel
  have Hki := aside hki
  have hk1 : k ≤ 1000 := by omega
  clear hki
  rcases Nat.eq_zero_or_pos k with h0 | hpos
  ·subst h0
   have hin : i = n := by have := Hki.out; omega
   have i0 : ((i : Int) < (n : Int)) = False := by simp only [eq_iff_iff, iff_false]; omega
   have HXe : Hid (stepL i d = stepL n d) := aside (by rw [show i = n by have := Hki.out; omega])
   have hXl := stepL_len HDl.out i
   generalize stepL i d = X at D0 HXe hXl
   have HS9 : Hid ((Tryz.prog.info? 23).map (·.size) = some (rowY X).size) := aside (by rw [rowY_size, hXl]; kernel_rfl)
   have HS8 : Hid ((rowY (List.replicate 32 0)).size = (rowY X).size) := aside (by rw [rowY_size, rowY_size, hXl]; rfl)
   go_wp2_with (first
    | (refine wpList_load_row rfl 23 (.tmp 2) rfl B0 rfl 23 (rowY X) (0, 0) _ D0.out Tryz.underlying23 rfl HS9.out ?_)
    | (refine wpList_store_row rfl 23 (.tmp 4) (.tmp 14) rfl (B0 + 1) (rowY X) rfl rfl 23 (rowY (List.replicate 32 0)) D1.out HS9.out HS8.out (rowY_one _) ?_)
    | fail)
   refine bodyPost_ret (results_cell_row rfl _ _ (B0 + 1) 23 (rowY X) (0, 0) _ rfl (setRow_heap wr (B0 + 1) _ _ _ _ D1.out) Tryz.underlying23 rfl HS9.out) rfl ?_
   exact ⟨by rw [← HXe.out] <;> rfl, below_setRow HB.out _ (by rw [EB.out]; omega) _⟩
  ·obtain ⟨k', rfl⟩ : ∃ k', k = k' + 1 := ⟨k - 1, by omega⟩
   have k0 : (i : Int) < (n : Int) := by have := Hki.out; omega
   have hi1 : i ≤ 1000 := by omega
   have HNx : Hid (stepL (i + 1) d = ofL 8 [stepL i d]) := aside rfl
   have hXl := stepL_len HDl.out i
   have HXb := aside (stepL_small HDb.out i)
   generalize stepL i d = X at D0 HNx hXl HXb
   have HS9 : Hid ((Tryz.prog.info? 23).map (·.size) = some (rowY X).size) := aside (by rw [rowY_size, hXl]; kernel_rfl)
   have B2 : Hid (Below wr.heap.size wr (wr.alloc (.cells (rowY X) 23))) := aside ((Below.refl _ _).alloc (Nat.le_refl _) _)
   have G2 : Hid (GSl (wr.alloc (.cells (rowY X) 23)) (wr.alloc (.cells (rowY X) 23)).heap.size (some ⟨wr.heap.size, 0, none⟩) 1 [X]) := aside ((BlkY.new wr 23 X).gsl hXl (by simp))
   go_wp2_with (first
    | (refine wpList_load_row rfl 23 (.tmp 2) rfl B0 rfl 23 (rowY X) (0, 0) _ D0.out Tryz.underlying23 rfl HS9.out ?_)
    | (refine wpList_dig rfl (.tmp 11) rfl X rfl hXl ?_)
    | fail)
   have HD1 : Hid (∀ x ∈ [X], x.length = 32 ∧ ∀ y ∈ x, y < 256) := aside (fun x hx => by
    obtain rfl := List.mem_singleton.1 hx
    exact ⟨hXl, HXb.out⟩)
   refine (rof_any 8 (by decide) [X] HD1.out (some ⟨wr.heap.size, 0, none⟩) 1 1 (by decide) _ G2.out (HG.out.below (HB.out.trans (B2.out.mono HB.out.size)))).mono ?_
   rintro e w3 ⟨rfl, hb3⟩
   have hB3 : Below wr.heap.size wr w3 := B2.out.trans (hb3.mono B2.out.size)
   have HB3 := aside (HB.out.trans (hB3.mono HB.out.size))
   have D03 := aside (D0.out.below hB3 D0.out.lt)
   have D13 := aside (D1.out.below hB3 D1.out.lt)
   have hz3 := Nat.le_trans hz hB3.size
   clear hb3 hB3
   obtain ⟨Y, hY⟩ : ∃ Y, Y = ofL 8 [X] := ⟨_, rfl⟩
   have hYl : Y.length = 32 := by rw [hY]; exact ofL_len _ _
   rw [← hY] at HNx ⊢
   clear hY
   have HS7 : Hid ((Tryz.prog.info? 23).map (·.size) = some (rowY Y).size) := aside (by rw [rowY_size, hYl]; kernel_rfl)
   have HS8 : Hid ((rowY X).size = (rowY Y).size) := aside (by rw [rowY_size, rowY_size, hXl, hYl])
   have D04 : Hid (BlkY (w3.setRow B0 (rowY Y)) B0 23 (stepL (i + 1) d)) := aside (by rw [HNx.out]; exact setRow_heap _ _ _ _ _ _ D03.out)
   have D14 : Hid (BlkY (w3.setRow B0 (rowY Y)) (B0 + 1) 23 (List.replicate 32 0)) := aside ((setRow_other _ _ _ _ (by omega)).trans D13.out)
   have HB4 : Hid (Below w.heap.size w (w3.setRow B0 (rowY Y))) := aside (below_setRow HB3.out _ (by rw [EB.out]; exact Nat.le_refl _) _)
   have hz4 : B0 + 2 ≤ (w3.setRow B0 (rowY Y)).heap.size := by
    have := D14.out.lt
    omega
   go_wp2_with (first
    | (refine wpList_store_row rfl 23 (.tmp 2) (.tmp 13) rfl B0 (rowY Y) rfl rfl 23 (rowY X) D03.out HS7.out HS8.out (rowY_one _) ?_)
    | fail)
   exact ⟨⟨k', i + 1, by have := Hki.out; omega, by go_num, hz4, D04, D14, HB4⟩, by have := Hki.out; simp [Go.RowKit.intOf] <;> omega⟩
end Go.Proofs.YtbpabjhcjffkmaaGreatDoor

/- The reference's digest with a key: the walk. Conditions: named in each theorem. -/
namespace Go.Proofs.YtbpabjhcjffkmaaGreatDoor
open Go.RowKit Go.ChangeShapes Go.WideShapes Go.ChangeAt

theorem padN_next (x : Nat) (k : List Nat) {i : Nat} (h : i < 64) : (padN x k 64).take (i + 1) = (padN x k 64).take i ++ [k.getD i 0 ^^^ x] := by
 rw [List.take_add_one, padN_at h, if_pos h]
 rfl
theorem padN_all (x : Nat) (k : List Nat) : (padN x k 64).take 64 = padN x k 64 := List.take_of_length_le (by rw [padN_len]; exact Nat.le_refl _)
set_option maxHeartbeats 40000000 in
set_option maxRecDepth 100000 in
theorem rmac_any (ks : List Nat) (K : Option Addr) (kn kc : Nat) (ms : List Nat) (M : Option Addr) (mn mc : Nat) (w : World) (hk : YSl w w.heap.size K kn ks) (hm : YSl w w.heap.size M mn ms) (hkn : kn ≤ 64) (hmn : mn ≤ 1000) (hkb : ∀ x ∈ ks, x < 256) (hmb : ∀ x ∈ ms, x < 256) :
  Calls Tryz.prog 55 #[.slice K kn kc, .slice M mn mc] w (fun e w' => e = .returned (digV (macL ks ms)) ∧ Below w.heap.size w w') := by
 have hkl := YSl.len1 hk
 have hml := YSl.len1 hm
 have HK := aside hk
 have HM := aside hm
 have HKb := aside hkb
 have HMb := aside hmb
 have HKl := aside hkl
 have B1 : Hid (Below w.heap.size w (w.alloc (.cells (rowY (List.replicate 32 0)) 23))) := aside ((Below.refl _ _).alloc (Nat.le_refl _) _)
 have D0 : Hid (BlkY (w.alloc (.cells (rowY (List.replicate 32 0)) 23)) w.heap.size 23 (List.replicate 32 0)) := aside (BlkY.new w _ _)
 have Z1 : Hid (w.heap.size + 1 ≤ (w.alloc (.cells (rowY (List.replicate 32 0)) 23)).heap.size) := aside (by simp)
 have HO1 : Hid (YRow (w.alloc (.cells (rowY (List.replicate 32 0)) 23)) (w.heap.size + 1) (.slice none 0 0) 0 ((padN 92 ks 64).take 0)) := aside ⟨rfl, .inl ⟨rfl, rfl⟩⟩
 have HO2 : Hid (YRow (w.alloc (.cells (rowY (List.replicate 32 0)) 23)) (w.heap.size + 1) (.slice none 0 0) 0 ((padN 54 ks 64).take 0)) := aside ⟨rfl, .inl ⟨rfl, rfl⟩⟩
 have HA : Hid (Apart (.slice none 0 0) (.slice none 0 0)) := aside (apart_nil _ _ _)
 have hk1 : (kn : Int) ≤ 64 := by omega
 clear hk hm hkb hmb hkl hml
 go_enter Tryz.func55, Tryz.ntmps55
 go_wp2_with fail
 change Code.wp _ _ _ _ (w.alloc (.cells (rowY (List.replicate 32 0)) 23))
 generalize (w.alloc (.cells (rowY (List.replicate 32 0)) 23)) = w1 at B1 D0 Z1 HO1 HO2 ⊢
 obtain ⟨B0, hB0⟩ : ∃ B0, B0 = w.heap.size := ⟨_, rfl⟩
 have EB := aside hB0
 simp only [← hB0] at D0 Z1 HO1 HO2 ⊢
 clear hB0
 go_loopw [6, 7, 8] (fun v6 v7 v8 wr => ∃ (i : Nat) (A1 : Option Addr) (c1 : Nat) (A2 : Option Addr) (c2 : Nat), i ≤ 64 ∧ v8 = .int .i64 i ∧ v6 = .slice A1 i c1 ∧ v7 = .slice A2 i c2 ∧ B0 + 1 ≤ wr.heap.size ∧ Hid (YRow wr (B0 + 1) (.slice A1 i c1) i ((padN 92 ks 64).take i)) ∧ Hid (YRow wr (B0 + 1) (.slice A2 i c2) i ((padN 54 ks 64).take i)) ∧ Hid (Apart (.slice A1 i c1) (.slice A2 i c2)) ∧ Hid (BlkY wr B0 23 (List.replicate 32 0)) ∧ Hid (Below w.heap.size w wr)) (fun _ _ v8 _ => 64 - (Go.RowKit.intOf v8).toNat)
 case atStart => exact ⟨0, none, 0, none, 0, Nat.zero_le _, rfl, rfl, rfl, Z1.out, HO1, HO2, HA, D0, B1⟩
 case round =>
  clear HO1 HO2 HA D0 B1 Z1
  obtain ⟨i, A1, c1, A2, c2, hi, rfl, rfl, rfl, hz, HO1, HO2, HA, D0, HB⟩ := hrel
  by_cases hin : i < 64
  ·have i0 : (i : Int) < 64 := by omega
   have HX1 := aside (padN_next 92 ks hin)
   have HX2 := aside (padN_next 54 ks hin)
   have hxb : ks.getD i 0 < 256 := getD_lt HKb.out (by decide) i
   have x1 : bits .xor .u8 ((ks.getD i 0 : Nat) : Int) 92 = ((ks.getD i 0 ^^^ 92 : Nat) : Int) := u8_xor_nat _ 92 hxb (by decide)
   have x2 : bits .xor .u8 ((ks.getD i 0 : Nat) : Int) 54 = ((ks.getD i 0 ^^^ 54 : Nat) : Int) := u8_xor_nat _ 54 hxb (by decide)
   have hcase : (i < kn ∧ ∃ b off, K = some ⟨b, off, none⟩ ∧ wr.cell? ⟨b, off + i, none⟩ = some (.int .u8 (ks.getD i 0 : Nat))) ∨ (kn ≤ i ∧ ks.getD i 0 = 0) := by
    by_cases h : i < kn
    ·obtain ⟨b, o, hAe, hb, hc⟩ := YSl.at1 HK.out (by omega)
     exact .inl ⟨h, b, o, hAe, (HB.out.cell (p := ⟨b, o + i, none⟩) hb).trans (hc i h)⟩
    ·refine .inr ⟨by omega, ?_⟩
     rw [List.getD_eq_getElem?_getD, List.getElem?_eq_none (by have := HKl.out; omega)]
     rfl
   generalize ks.getD i 0 = x at *
   rcases hcase with ⟨h1, b, off, rfl, hc⟩ | ⟨h1, rfl⟩
   case inl =>
    have j0 : (i : Int) < (kn : Int) := by omega
    clear h1 hin
    go_wp2_with (first
     | (at_builtin; refine wpList_push rfl (.tmp 29) (.tmp 32) 67 rfl (B0 + 1) (.int .u8 0) 1 1 Tryz.underlying67 byteInfo rfl (by decide) _ i _ rfl rfl rfl (by simp [Value.oneCell']) HO1.out (by omega) (by unfold maxLen; omega) hz ?_; intro A3 c3 w3 hc3 hc3' hown3 hb3 hz3 hg3; have HO3 : Hid (YRow w3 (B0 + 1) (.slice A3 (i + 1) c3) (i + 1) ((padN 92 ks 64).take (i + 1))) := aside (by rw [HX1.out]; exact YRow.push rfl rfl hown3); have HO23 := aside (hg3.other HO2.out HA.out); have hzb : B0 + 1 ≤ w3.heap.size := Nat.le_trans hz hb3.size; have HB3 := aside hb3; clear hown3 hb3 hz3 hg3)
     | (at_builtin; refine wpList_push rfl (.tmp 34) (.tmp 37) 67 rfl (B0 + 1) (.int .u8 0) 1 1 Tryz.underlying67 byteInfo rfl (by decide) _ i _ rfl rfl rfl (by simp [Value.oneCell']) HO23.out.1 (by omega) (by unfold maxLen; omega) hzb ?_; intro A4 c4 w4 hc4 hc4' hown4 hb4 hz4 hg4; have HO4 : Hid (YRow w4 (B0 + 1) (.slice A4 (i + 1) c4) (i + 1) ((padN 54 ks 64).take (i + 1))) := aside (by rw [HX2.out]; exact YRow.push rfl rfl hown4); have HO34 := aside (hg4.other HO3.out HO23.out.2.symm); have hzc : B0 + 1 ≤ w4.heap.size := Nat.le_trans hzb hb4.size; have HB4 := aside (HB3.out.trans hb4); clear hown4 hb4 hz4 hg4)
     | fail)
    exact ⟨⟨i + 1, A3, c3, A4, c4, by omega, by go_num, rfl, rfl, hzc, aside HO34.out.1, HO4, aside HO34.out.2.symm, aside (D0.out.below HB4.out (Nat.lt_succ_self _)), aside (HB.out.trans (HB4.out.mono (by rw [EB.out]; omega)))⟩, by simp [Go.RowKit.intOf]; omega⟩
   case inr =>
    have j0 : (kn : Int) ≤ (i : Int) := by omega
    have x1' : bits .xor .u8 (0 : Int) 92 = ((0 ^^^ 92 : Nat) : Int) := x1
    have x2' : bits .xor .u8 (0 : Int) 54 = ((0 ^^^ 54 : Nat) : Int) := x2
    clear h1 hin x1 x2
    go_wp2_with (first
     | (at_builtin; refine wpList_push rfl (.tmp 29) (.tmp 32) 67 rfl (B0 + 1) (.int .u8 0) 1 1 Tryz.underlying67 byteInfo rfl (by decide) _ i _ rfl rfl rfl (by simp [Value.oneCell']) HO1.out (by omega) (by unfold maxLen; omega) hz ?_; intro A3 c3 w3 hc3 hc3' hown3 hb3 hz3 hg3; have HO3 : Hid (YRow w3 (B0 + 1) (.slice A3 (i + 1) c3) (i + 1) ((padN 92 ks 64).take (i + 1))) := aside (by rw [HX1.out]; exact YRow.push rfl rfl hown3); have HO23 := aside (hg3.other HO2.out HA.out); have hzb : B0 + 1 ≤ w3.heap.size := Nat.le_trans hz hb3.size; have HB3 := aside hb3; clear hown3 hb3 hz3 hg3)
     | (at_builtin; refine wpList_push rfl (.tmp 34) (.tmp 37) 67 rfl (B0 + 1) (.int .u8 0) 1 1 Tryz.underlying67 byteInfo rfl (by decide) _ i _ rfl rfl rfl (by simp [Value.oneCell']) HO23.out.1 (by omega) (by unfold maxLen; omega) hzb ?_; intro A4 c4 w4 hc4 hc4' hown4 hb4 hz4 hg4; have HO4 : Hid (YRow w4 (B0 + 1) (.slice A4 (i + 1) c4) (i + 1) ((padN 54 ks 64).take (i + 1))) := aside (by rw [HX2.out]; exact YRow.push rfl rfl hown4); have HO34 := aside (hg4.other HO3.out HO23.out.2.symm); have hzc : B0 + 1 ≤ w4.heap.size := Nat.le_trans hzb hb4.size; have HB4 := aside (HB3.out.trans hb4); clear hown4 hb4 hz4 hg4)
     | fail)
    exact ⟨⟨i + 1, A3, c3, A4, c4, by omega, by go_num, rfl, rfl, hzc, aside HO34.out.1, HO4, aside HO34.out.2.symm, aside (D0.out.below HB4.out (Nat.lt_succ_self _)), aside (HB.out.trans (HB4.out.mono (by rw [EB.out]; omega)))⟩, by simp [Go.RowKit.intOf]; omega⟩
  ·obtain rfl : i = 64 := by omega
   clear hin
   have HP1 : Hid (YRow wr (B0 + 1) (.slice A1 64 c1) 64 (padN 92 ks 64)) := aside (by have := HO1.out; rwa [padN_all] at this)
   have HP2 : Hid (YRow wr (B0 + 1) (.slice A2 64 c2) 64 (padN 54 ks 64)) := aside (by have := HO2.out; rwa [padN_all] at this)
   have HMw : Hid (YSl wr wr.heap.size M mn ms) := aside (Sl.more (Sl.below HM.out HB.out) HB.out.size)
   have H1m := aside (ones ms)
   clear HO1 HO2
   go_wp2_with (first
    | (at_builtin; refine wpList_concat rfl (.tmp 39) (.tmp 40) 67 rfl (B0 + 1) (.int .u8 0) 1 1 Tryz.underlying67 byteInfo rfl (by decide) _ 64 _ rfl HP2.out wr.heap.size M mn mc _ rfl HMw.out H1m.out (by omega) (by unfold maxLen; omega) hz ?_; intro A3 c3 w3 hc3 hc3' hown3 hb3 hg3)
    | fail)
   have hoth := hg3.other HP1.out HA.out.symm
   have HO3 : Hid (YRow w3 (B0 + 1) (.slice A1 64 c1) 64 (padN 92 ks 64)) := aside hoth.1
   have HY3 : Hid (YSl w3 w3.heap.size A3 (64 + mn) (padN 54 ks 64 ++ ms)) := aside (by
    have h9 := Sl.own hown3
    rw [← List.flatMap_append] at h9
    exact h9)
   have HB3 := aside (HB.out.trans (hb3.mono (by rw [EB.out]; omega)))
   have D03 := aside (D0.out.below hb3 (Nat.lt_succ_self _))
   have hz3 := Nat.le_trans hz hb3.size
   clear hown3 hb3 hg3 hoth HP1 HP2 HMw HA
   have HSm := aside (rsum_any (padN 54 ks 64 ++ ms) A3 (64 + mn) c3 w3 HY3.out (by omega) (fun x hx => (List.mem_append.1 hx).elim (padN_small (by decide) HKb.out 64 x) (HMb.out x)))
   obtain ⟨X, hX⟩ : ∃ X, X = shaL (padN 54 ks 64 ++ ms) := ⟨_, rfl⟩
   have HMc : Hid (macL ks ms = shaL (padN 92 ks 64 ++ X)) := aside (by rw [hX]; rfl)
   have hXl : X.length = 32 := by rw [hX]; exact shaL_len _
   have HXb : Hid (∀ x ∈ X, x < 256) := aside (by rw [hX]; exact shaL_small _)
   rw [← hX] at HSm
   clear hX
   refine HSm.out.mono ?_
   rintro e w4 ⟨rfl, hb4⟩
   have HO4 : Hid (YRow w4 (B0 + 1) (.slice A1 64 c1) 64 (padN 92 ks 64)) := aside (own_below HO3.out hb4)
   have HB4 := aside (HB3.out.trans (hb4.mono HB3.out.size))
   have D04 := aside (D03.out.below hb4 D03.out.lt)
   have hz4 := Nat.le_trans hz3 hb4.size
   clear hb4 HSm HO3 HY3 HB3 D03
   have HS9 := aside (zinfo X hXl)
   have HS8 := aside (zsame _ _ zlen hXl)
   have DX := aside (BlkY.new w4 23 (List.replicate 32 0))
   go_upto_region 15 with (first
    | (refine wpList_store_row rfl 23 (.tmp 10) (.tmp 42) rfl w4.heap.size (rowY X) rfl rfl 23 (rowY (List.replicate 32 0)) DX.out HS9.out HS8.out (rowY_one _) ?_)
    | fail)
   have HB5 : Hid (Below w4.heap.size w4 ((w4.alloc (.cells (rowY (List.replicate 32 0)) 23)).setRow w4.heap.size (rowY X))) := aside (below_setRow ((Below.refl _ _).alloc (Nat.le_refl _) _) _ (Nat.le_refl _) _)
   have DX5 : Hid (BlkY ((w4.alloc (.cells (rowY (List.replicate 32 0)) 23)).setRow w4.heap.size (rowY X)) w4.heap.size 23 X) := aside (setRow_heap _ _ _ _ _ _ DX.out)
   change Code.wp _ _ _ _ ((w4.alloc (.cells (rowY (List.replicate 32 0)) 23)).setRow w4.heap.size (rowY X))
   generalize ((w4.alloc (.cells (rowY (List.replicate 32 0)) 23)).setRow w4.heap.size (rowY X)) = w5 at HB5 DX5 ⊢
   obtain ⟨bx, hbx⟩ : ∃ bx, bx = w4.heap.size := ⟨_, rfl⟩
   rw [← hbx] at DX5 ⊢
   clear hbx DX
   have HO5 : Hid (YRow w5 (B0 + 1) (.slice A1 64 c1) 64 (padN 92 ks 64)) := aside (own_below HO4.out HB5.out)
   have HBw5 := aside (HB4.out.trans (HB5.out.mono HB4.out.size))
   have D05 := aside (D04.out.below HB5.out D04.out.lt)
   have hz5 := Nat.le_trans hz4 HB5.out.size
   have HSd : Hid (YSl w5 w5.heap.size (some ⟨bx, 0, none⟩) 32 X) := aside (DX5.out.sl hXl DX5.out.lt)
   have H1d := aside (ones X)
   clear HO4 HB4 D04 HB5
   go_wp2_with (first
    | (at_builtin; refine wpList_concat rfl (.tmp 43) (.tmp 44) 67 rfl (B0 + 1) (.int .u8 0) 1 1 Tryz.underlying67 byteInfo rfl (by decide) _ 64 _ rfl HO5.out w5.heap.size (some ⟨bx, 0, none⟩) 32 32 _ rfl HSd.out H1d.out (by decide) (by decide) hz5 ?_; intro A6 c6 w6 hc6 hc6' hown6 hb6 hg6)
    | fail)
   have HY6 : Hid (YSl w6 w6.heap.size A6 (64 + 32) (padN 92 ks 64 ++ X)) := aside (by
    have h9 := Sl.own hown6
    rw [← List.flatMap_append] at h9
    exact h9)
   have HB6 := aside (HBw5.out.trans (hb6.mono (by rw [EB.out]; omega)))
   have D06 := aside (D05.out.below hb6 (Nat.lt_succ_self _))
   clear hown6 hb6 hg6 HO5 HBw5 D05
   have HSn := aside (rsum_any (padN 92 ks 64 ++ X) A6 (64 + 32) c6 w6 HY6.out (by omega) (fun x hx => (List.mem_append.1 hx).elim (padN_small (by decide) HKb.out 64 x) (HXb.out x)))
   rw [← HMc.out] at HSn
   refine HSn.out.mono ?_
   rintro e w7 ⟨rfl, hb7⟩
   have HB7 := aside (HB6.out.trans (hb7.mono HB6.out.size))
   have D07 : Hid (BlkY w7 B0 23 (List.replicate 32 0)) := aside (D06.out.below hb7 D06.out.lt)
   have hYl := macL_len ks ms
   have HS7 := aside (zinfo _ hYl)
   have HS6 := aside (zsame _ _ zlen hYl)
   clear hb7 HSn
   go_wp2_with (first
    | (refine wpList_store_row rfl 23 (.tmp 4) (.tmp 46) rfl B0 (rowY (macL ks ms)) rfl rfl 23 (rowY (List.replicate 32 0)) D07.out HS7.out HS6.out (rowY_one _) ?_)
    | fail)
   refine bodyPost_ret (results_cell_row rfl _ _ B0 23 (rowY (macL ks ms)) (0, 0) _ rfl (setRow_heap w7 B0 _ _ _ _ D07.out) Tryz.underlying23 rfl HS7.out) rfl ?_
   exact ⟨rfl, below_setRow HB7.out _ (by rw [EB.out]; exact Nat.le_refl _) _⟩
end Go.Proofs.YtbpabjhcjffkmaaGreatDoor

/- The reference's one-time keys: secrets, public keys: the walks. Conditions: named in each theorem. -/
namespace Go.Proofs.YtbpabjhcjffkmaaGreatDoor
open Go.RowKit Go.ChangeShapes Go.WideShapes Go.ChangeAt

/-- What a digest's box and an empty result hold, at a call's begin. -/
structure Two (w w1 : World) (d : List Nat) : Prop where
 below : Below w.heap.size w w1
 box : BlkY w1 w.heap.size 23 d
 res : BlkY w1 (w.heap.size + 1) 23 (List.replicate 32 0)
theorem Two.mk_ (w : World) (d : List Nat) : Two w ((w.alloc (.cells (rowY d) 23)).alloc (.cells (rowY (List.replicate 32 0)) 23)) d :=
 ⟨((Below.refl _ _).alloc (Nat.le_refl _) _).alloc (by simp) _, (BlkY.new w _ _).alloc _, by
  have h := BlkY.new (w.alloc (.cells (rowY d) 23)) 23 (List.replicate 32 0)
  rwa [show (w.alloc (.cells (rowY d) 23)).heap.size = w.heap.size + 1 by simp] at h⟩
set_option maxHeartbeats 20000000 in
set_option maxRecDepth 100000 in
theorem keyed_any (d : List Nat) (hd : d.length = 32) (hb : ∀ x ∈ d, x < 256) (ms : List Nat) (M : Option Addr) (mn mc : Nat) (w : World) (hm : YSl w w.heap.size M mn ms) (hmn : mn ≤ 1000) (hmb : ∀ x ∈ ms, x < 256) :
  Calls Tryz.prog 98 #[digV d, .slice M mn mc] w (fun e w' => e = .returned (digV (macL d ms)) ∧ Below w.heap.size w w') := by
 have HT := aside (Two.mk_ w d)
 have HM := aside hm
 have HDb := aside hb
 have HDl := aside hd
 have HMb := aside hmb
 clear hm hb hd hmb
 unfold digV
 go_enter Tryz.func98, Tryz.ntmps98
 go_upto_region 1 with fail
 change Code.wp _ _ _ _ ((w.alloc (.cells (rowY d) 23)).alloc (.cells (rowY (List.replicate 32 0)) 23))
 generalize ((w.alloc (.cells (rowY d) 23)).alloc (.cells (rowY (List.replicate 32 0)) 23)) = w1 at HT ⊢
 obtain ⟨B1, D0, D1⟩ := HT.out
 obtain ⟨B0, hB0⟩ : ∃ B0, B0 = w.heap.size := ⟨_, rfl⟩
 have EB := aside hB0
 simp only [← hB0] at D0 D1 ⊢
 clear hB0 HT
 have HKs : Hid (YSl w1 w1.heap.size (some ⟨B0, 0, none⟩) 32 d) := aside (D0.sl HDl.out D0.lt)
 have HMs : Hid (YSl w1 w1.heap.size M mn ms) := aside (Sl.more (Sl.below HM.out B1) B1.size)
 have HB1 := aside B1
 have HD1 := aside D1
 clear B1 D0 D1
 go_wp2_with fail
 refine (rmac_any d (some ⟨B0, 0, none⟩) 32 32 ms M mn mc w1 HKs.out HMs.out (by omega) hmn HDb.out HMb.out).mono ?_
 rintro e w2 ⟨rfl, hb2⟩
 have HB2 := aside (HB1.out.trans (hb2.mono HB1.out.size))
 have D2 := aside (HD1.out.below hb2 HD1.out.lt)
 have hYl := macL_len d ms
 have HS7 := aside (zinfo _ hYl)
 have HS6 := aside (zsame _ _ zlen hYl)
 clear hb2
 go_wp2_with (first
  | (refine wpList_store_row rfl 23 (.tmp 4) (.tmp 7) rfl (B0 + 1) (rowY (macL d ms)) rfl rfl 23 (rowY (List.replicate 32 0)) D2.out HS7.out HS6.out (rowY_one _) ?_)
  | fail)
 refine bodyPost_ret (results_cell_row rfl _ _ (B0 + 1) 23 (rowY (macL d ms)) (0, 0) _ rfl (setRow_heap w2 (B0 + 1) _ _ _ _ D2.out) Tryz.underlying23 rfl HS7.out) rfl ?_
 exact ⟨rfl, below_setRow HB2.out _ (by rw [EB.out]; omega) _⟩
set_option maxHeartbeats 20000000 in
set_option maxRecDepth 100000 in
theorem rsec_any (d : List Nat) (hd : d.length = 32) (hb : ∀ x ∈ d, x < 256) (i : Nat) (hi : i < 256) (w : World) :
  Calls Tryz.prog 53 #[digV d, .int .i64 i] w (fun e w' => e = .returned (digV (macL d [5, i])) ∧ Below w.heap.size w w') := by
 have HT := aside (Two.mk_ w d)
 have HDb := aside hb
 have HDl := aside hd
 have e1 : IntKind.u8.wrap (i : Int) = (i : Int) := by rw [IntKind.wrap_u8]; omega
 have HS9 := aside (zinfo d hd)
 clear hb hd
 unfold digV
 go_enter Tryz.func53, Tryz.ntmps53
 go_upto_region 1 with fail
 change Code.wp _ _ _ _ ((w.alloc (.cells (rowY d) 23)).alloc (.cells (rowY (List.replicate 32 0)) 23))
 generalize ((w.alloc (.cells (rowY d) 23)).alloc (.cells (rowY (List.replicate 32 0)) 23)) = w1 at HT ⊢
 obtain ⟨B1, D0, D1⟩ := HT.out
 obtain ⟨B0, hB0⟩ : ∃ B0, B0 = w.heap.size := ⟨_, rfl⟩
 have EB := aside hB0
 simp only [← hB0] at D0 D1 ⊢
 clear hB0 HT
 have HB1 := aside B1
 have HD0 := aside D0
 have HD1 := aside D1
 clear B1 D0 D1
 go_wp2_with (first
  | (refine wpList_load_row rfl 23 (.tmp 2) rfl B0 rfl 23 (rowY d) (0, 0) _ HD0.out Tryz.underlying23 rfl HS9.out ?_)
  | fail)
 have HB2 : Hid (Below w1.heap.size w1 (w1.alloc (.cells #[.int .u8 ((5 : Nat) : Int), .int .u8 (i : Int)] 5))) := aside ((Below.refl _ _).alloc (Nat.le_refl _) _)
 have HY2 : Hid (YSl (w1.alloc (.cells #[.int .u8 ((5 : Nat) : Int), .int .u8 (i : Int)] 5)) (w1.alloc (.cells #[.int .u8 ((5 : Nat) : Int), .int .u8 (i : Int)] 5)).heap.size (some ⟨w1.heap.size, 0, none⟩) 2 [5, i]) := aside ((BlkY.new w1 5 [5, i]).sl rfl (by simp))
 refine (show Calls _ _ #[digV d, _] _ _ from keyed_any d HDl.out HDb.out [5, i] (some ⟨w1.heap.size, 0, none⟩) 2 2 (w1.alloc (.cells #[.int .u8 ((5 : Nat) : Int), .int .u8 (i : Int)] 5)) HY2.out (by decide) (by intro x hx; simp at hx; rcases hx with rfl | rfl <;> omega)).mono ?_
 rintro e w2 ⟨rfl, hb2⟩
 have hB3 : Below w1.heap.size w1 w2 := HB2.out.trans (hb2.mono HB2.out.size)
 have HB3 := aside (HB1.out.trans (hB3.mono HB1.out.size))
 have D2 := aside (HD1.out.below hB3 HD1.out.lt)
 have hYl := macL_len d [5, i]
 have HS7 := aside (zinfo _ hYl)
 have HS6 := aside (zsame _ _ zlen hYl)
 clear hb2 hB3 HB2 HY2
 go_wp2_with (first
  | (refine wpList_store_row rfl 23 (.tmp 4) (.tmp 9) rfl (B0 + 1) (rowY (macL d [5, i])) rfl rfl 23 (rowY (List.replicate 32 0)) D2.out HS7.out HS6.out (rowY_one _) ?_)
  | fail)
 refine bodyPost_ret (results_cell_row rfl _ _ (B0 + 1) 23 (rowY (macL d [5, i])) (0, 0) _ rfl (setRow_heap w2 (B0 + 1) _ _ _ _ D2.out) Tryz.underlying23 rfl HS7.out) rfl ?_
 exact ⟨rfl, below_setRow HB3.out _ (by rw [EB.out]; omega) _⟩
theorem endN_next (d : List Nat) (i : Nat) : endN d (i + 1) = endN d i ++ [stepL 15 (macL d [5, i])] := by
 unfold endN
 rw [List.range_succ, List.map_append]
 rfl
theorem infoD : (Tryz.prog.info? 23).map (fun i => (i.zero, i.size, i.bytes)) = some (some (.agg (rowY (List.replicate 32 0))), 32, 32) := by kernel_rfl
set_option maxHeartbeats 20000000 in
set_option maxRecDepth 100000 in
theorem rpub_any (d : List Nat) (hd : d.length = 32) (hb : ∀ x ∈ d, x < 256) (w : World) (hg : RoundsAt w) :
  Calls Tryz.prog 92 #[digV d] w (fun e w' => e = .returned (digV (pubL d)) ∧ Below w.heap.size w w') := by
 have HT := aside (Two.mk_ w d)
 have HDb := aside hb
 have HDl := aside hd
 have HG := aside hg
 have HS9 := aside (zinfo d hd)
 clear hb hd hg
 unfold digV
 go_enter Tryz.func92, Tryz.ntmps92
 go_wp2_with fail
 change Code.wp _ _ _ _ ((w.alloc (.cells (rowY d) 23)).alloc (.cells (rowY (List.replicate 32 0)) 23))
 generalize ((w.alloc (.cells (rowY d) 23)).alloc (.cells (rowY (List.replicate 32 0)) 23)) = w1 at HT ⊢
 obtain ⟨B1, D0, D1⟩ := HT.out
 obtain ⟨B0, hB0⟩ : ∃ B0, B0 = w.heap.size := ⟨_, rfl⟩
 have EB := aside hB0
 simp only [← hB0] at D0 D1 ⊢
 clear hB0 HT
 have hz1 : B0 + 2 ≤ w1.heap.size := by have := D1.lt; omega
 have HB1 := aside B1
 have HD0 := aside D0
 have HD1 := aside D1
 have HO : Hid (w1.ownsRow (B0 + 2) 23 32 (.slice none 0 0) 0 ((endN d 0).flatMap digC)) := aside ⟨rfl, .inl ⟨rfl, rfl⟩⟩
 clear B1 D0 D1
 go_loopw [3, 4] (fun v3 v4 wr => ∃ (i : Nat) (A1 : Option Addr) (c1 : Nat), i ≤ 67 ∧ v4 = .int .i64 i ∧ v3 = .slice A1 i c1 ∧ B0 + 2 ≤ wr.heap.size ∧ Hid (wr.ownsRow (B0 + 2) 23 32 (.slice A1 i c1) i ((endN d i).flatMap digC)) ∧ Hid (BlkY wr B0 23 d) ∧ Hid (BlkY wr (B0 + 1) 23 (List.replicate 32 0)) ∧ Hid (Below w.heap.size w wr)) (fun _ v4 _ => 67 - (Go.RowKit.intOf v4).toNat)
 case atStart => exact ⟨0, none, 0, Nat.zero_le _, rfl, rfl, hz1, HO, HD0, HD1, HB1⟩
 case round =>
  clear HO HD0 HD1 HB1 hz1
  obtain ⟨i, A1, c1, hi, rfl, rfl, hz, HO, HD0, HD1, HB⟩ := hrel
  by_cases hin : i < 67
  ·have i0 : (i : Int) < 67 := by omega
   go_wp2_with (first
    | (refine wpList_load_row rfl 23 (.tmp 1) rfl B0 rfl 23 (rowY d) (0, 0) _ HD0.out Tryz.underlying23 rfl HS9.out ?_)
    | fail)
   refine (show Calls _ _ #[digV d, _] _ _ from rsec_any d HDl.out HDb.out i (by omega) wr).mono ?_
   rintro e w2 ⟨rfl, hb2⟩
   have HB2 := aside hb2
   clear hb2
   go_wp2_with fail
   refine (show Calls _ _ #[digV (macL d [5, i]), .int .i64 ((15 : Nat) : Int)] _ _ from rstep_any (macL d [5, i]) (macL_len _ _) (macL_small _ _) 15 (by decide) w2 (HG.out.below (HB.out.trans (HB2.out.mono HB.out.size)))).mono ?_
   rintro e w3 ⟨rfl, hb3⟩
   have HB3 : Hid (Below wr.heap.size wr w3) := aside (HB2.out.trans (hb3.mono HB2.out.size))
   have hXl := stepL_len (macL_len d [5, i]) 15
   have HNx := aside (endN_next d i)
   generalize stepL 15 (macL d [5, i]) = X at hXl HNx
   have HO3 : Hid (w3.ownsRow (B0 + 2) 23 32 (.slice A1 i c1) i ((endN d i).flatMap digC)) := aside (own_below HO.out HB3.out)
   have hz3 : B0 + 2 ≤ w3.heap.size := Nat.le_trans hz HB3.out.size
   have D03 := aside (HD0.out.below HB3.out HD0.out.lt)
   have D13 := aside (HD1.out.below HB3.out HD1.out.lt)
   have HBw3 := aside (HB.out.trans (HB3.out.mono HB.out.size))
   have HE1 : Hid ((rowY X).toList.all (fun u => u.oneCell') = true) := aside (by
    have := rowY_one X
    simpa using this)
   have HE2 : Hid ((rowY X).size = 32) := aside (by rw [rowY_size, hXl])
   have HDc := aside (digC_row hXl)
   clear hb3 HB2 HB3 HO HD0 HD1 HB hin
   go_wp2_with (first
    | (refine wpList_dig rfl (.tmp 13) rfl X rfl hXl ?_)
    | (at_builtin; refine wpList_push rfl (.tmp 9) (.tmp 14) 128 rfl (B0 + 2) _ 32 32 Tryz.underlying128 infoD (by kernel_rfl) (by decide) (.slice A1 i c1) i _ rfl rfl HE2.out HE1.out HO3.out (by omega) (by unfold maxLen; omega) hz3 ?_; intro A5 c5 w5 hc5 hc5' hown5 hb5 hz5 hg5)
    | fail)
   have HO5 : Hid (w5.ownsRow (B0 + 2) 23 32 (.slice A5 (i + 1) c5) (i + 1) ((endN d (i + 1)).flatMap digC)) := aside (by
    rw [HNx.out, List.flatMap_append]
    have e9 : [X].flatMap digC = (rowY X).toList := by rw [← HDc.out]; simp
    rw [e9]
    exact hown5)
   exact ⟨⟨i + 1, A5, c5, by omega, by go_num, rfl, Nat.le_trans hz3 hb5.size, HO5, aside (D03.out.below hb5 (by omega)), aside (D13.out.below hb5 (by omega)), aside (HBw3.out.trans (hb5.mono (by rw [EB.out]; omega)))⟩, by simp [Go.RowKit.intOf]; omega⟩
  ·obtain rfl : i = 67 := by omega
   have HGs : Hid (GSl wr wr.heap.size A1 67 (endN d 67)) := aside (Sl.own HO.out)
   clear hin HO
   go_wp2_with fail
   refine (show Calls _ _ #[.int .u8 ((7 : Nat) : Int), _] _ _ from rof_any 7 (by decide) (endN d 67) (endN_dig d 67) A1 67 c1 (by decide) wr HGs.out (HG.out.below HB.out)).mono ?_
   rintro e w2 ⟨rfl, hb2⟩
   have HB2 := aside (HB.out.trans (hb2.mono HB.out.size))
   have D2 := aside (HD1.out.below hb2 HD1.out.lt)
   have hYl : (ofL 7 (endN d 67)).length = 32 := ofL_len _ _
   have HS7 := aside (zinfo _ hYl)
   have HS6 := aside (zsame _ _ zlen hYl)
   clear hb2 HB HD1
   go_wp2_with (first
    | (refine wpList_store_row rfl 23 (.tmp 2) (.tmp 17) rfl (B0 + 1) (rowY (ofL 7 (endN d 67))) rfl rfl 23 (rowY (List.replicate 32 0)) D2.out HS7.out HS6.out (rowY_one _) ?_)
    | fail)
   refine bodyPost_ret (results_cell_row rfl _ _ (B0 + 1) 23 (rowY (ofL 7 (endN d 67))) (0, 0) _ rfl (setRow_heap w2 (B0 + 1) _ _ _ _ D2.out) Tryz.underlying23 rfl HS7.out) rfl ?_
   exact ⟨rfl, below_setRow HB2.out _ (by rw [EB.out]; omega) _⟩
end Go.Proofs.YtbpabjhcjffkmaaGreatDoor
