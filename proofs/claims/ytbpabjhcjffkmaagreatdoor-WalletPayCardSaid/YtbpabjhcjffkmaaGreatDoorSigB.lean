/- The reference's signature of a digest: the walk. Conditions: named in each theorem. -/
import Derived.Test.YtbpabjhcjffkmaaGreatDoorSigA
import Derived.Test.YtbpabjhcjffkmaaGreatDoorPayT
import Derived.Test.YtbpabjhcjffkmaaGreatDoorWalH
import Derived.Test.YtbpabjhcjffkmaaGreatDoorWalA
import Derived.OrdersHeld
import Derived.Deep.RegionHeld3
import Derived.Deep.MidRow
namespace Go.Proofs.YtbpabjhcjffkmaaGreatDoor
open Go.RowKit Go.ChangeShapes Go.WideShapes Go.ChangeAt

theorem isl_nat {w : World} {B n : Nat} {A : Option Addr} {l : List Nat} (h : ISl w B A n (intsL l)) {k : Nat} (hk : k < n) : ∃ b off, A = some ⟨b, off, none⟩ ∧ b < B ∧ w.cell? ⟨b, off + k, none⟩ = some (.int .i64 ((l.getD k 0 : Nat) : Int)) := by
 obtain ⟨b, off, e, hb, hc⟩ := ISl.at_ h hk
 refine ⟨b, off, e, hb, ?_⟩
 rw [hc]
 have hl := ISl.len h
 rw [intsL_len] at hl
 rw [nth_get (by rw [intsL_len]; omega), List.getD_eq_getElem?_getD, List.getElem?_eq_getElem (by omega)]
 simp [intsL]
set_option maxHeartbeats 40000000 in
set_option maxRecDepth 100000 in
theorem rsign_any (d m : List Nat) (hd : d.length = 32) (hb : ∀ x ∈ d, x < 256) (hm : m.length = 32) (hmb : ∀ x ∈ m, x < 256) (w : World) (hg : RoundsAt w) :
  Calls Tryz.prog 25 #[digV d, digV m] w (fun e w' => ∃ v, e = .returned v ∧ BRow w' w.heap.size v (signL d m) ∧ Below w.heap.size w w') := by
 have B1 : Hid (Below w.heap.size w ((w.alloc (.cells (rowY d) 23)).alloc (.cells (rowY m) 23))) := aside (((Below.refl _ _).alloc (Nat.le_refl _) _).alloc (by simp) _)
 have D0 : Hid (BlkY ((w.alloc (.cells (rowY d) 23)).alloc (.cells (rowY m) 23)) w.heap.size 23 d) := aside ((BlkY.new w _ _).alloc _)
 have D1 : Hid (BlkY ((w.alloc (.cells (rowY d) 23)).alloc (.cells (rowY m) 23)) (w.heap.size + 1) 23 m) := aside (by
  have h := BlkY.new (w.alloc (.cells (rowY d) 23)) 23 m
  rwa [show (w.alloc (.cells (rowY d) 23)).heap.size = w.heap.size + 1 by simp] at h)
 have HDl := aside hd
 have HDb := aside hb
 have HMl := aside hm
 have HMb := aside hmb
 have HG := aside hg
 have HS7 := aside (zinfo m hm)
 have HNl : Hid ((digL m).length = 67) := aside (digL_len hm)
 have HNs : Hid (∀ y ∈ digL m, y ≤ 15) := aside (digL_small hm hmb)
 clear hd hb hm hmb hg
 unfold digV
 go_enter Tryz.func25, Tryz.ntmps25
 go_upto_region 1 with fail
 change Code.wp _ _ _ _ ((w.alloc (.cells (rowY d) 23)).alloc (.cells (rowY m) 23))
 generalize ((w.alloc (.cells (rowY d) 23)).alloc (.cells (rowY m) 23)) = w1 at B1 D0 D1 ⊢
 obtain ⟨B0, hB0⟩ : ∃ B0, B0 = w.heap.size := ⟨_, rfl⟩
 have EB := aside hB0
 simp only [← hB0] at D0 D1 ⊢
 clear hB0
 have l0 := D0.out.lt
 go_wp2_with (first
  | (refine wpList_load_row rfl 23 (.tmp 3) rfl (B0 + 1) rfl 23 (rowY m) (0, 0) _ D1.out Tryz.underlying23 rfl HS7.out ?_)
  | fail)
 refine (show Calls _ _ #[digV m] _ _ from rnib_any m HMl.out HMb.out w1).mono ?_
 rintro e w2 ⟨A2, c2, rfl, hs2, hb2⟩
 have HSn := aside hs2
 have HB2 := aside hb2
 have hz2 := hb2.size
 have HV2 : Hid (BRow w2 w2.heap.size (.slice none 0 0) ((sigN d (digL m) 0).flatMap id)) := aside (BRow.nil _ _)
 have HBr := aside (Below.refl w2.heap.size w2)
 have HL0 : Hid (((sigN d (digL m) 0).flatMap id).length = 32 * 0) := aside rfl
 clear hs2 hb2 D1
 go_upto_region 4 with fail
 go_loopw [6, 7] (fun v6 v7 wr => ∃ i : Nat, i ≤ 67 ∧ v7 = .int .i64 i ∧ Hid (BRow wr w2.heap.size v6 ((sigN d (digL m) i).flatMap id)) ∧ Hid (Below w2.heap.size w2 wr)) (fun _ v7 _ => 67 - (Go.RowKit.intOf v7).toNat)
 case atStart => exact ⟨0, by omega, rfl, HV2, HBr⟩
 case round =>
  clear HV2 HBr HL0
  obtain ⟨i, hi, rfl, HV, HB⟩ := hrel
  by_cases hin : i < 67
  ·have i0 : (i : Int) < 67 := by omega
   have HB1r : Hid (Below w1.heap.size w1 wr) := aside (HB2.out.trans (HB.out.mono HB2.out.size))
   have HBwr : Hid (Below w.heap.size w wr) := aside (B1.out.trans (HB1r.out.mono B1.out.size))
   have D0r : Hid (BlkY wr B0 23 d) := aside (D0.out.below HB1r.out l0)
   have l0r := D0r.out.lt
   obtain ⟨nb, no, hAe, hnb, hnc⟩ := isl_nat (HSn.out) (k := i) (by omega)
   have hcr := (HB.out.cell (p := ⟨nb, no + i, none⟩) hnb).trans hnc
   have hy15 : (digL m).getD i 0 ≤ 15 := HNs.out _ (by
    rw [List.getD_eq_getElem?_getD, List.getElem?_eq_getElem (by rw [HNl.out]; exact hin)]
    exact List.getElem_mem _)
   have hnx := sigN_succ d (digL m) i
   have hfl := sigN_flat d (digL m) i
   generalize (digL m).getD i 0 = y at *
   have HNx := aside hnx
   have HCr := aside hcr
   have hnbr : nb < wr.heap.size := by have := HB.out.size; omega
   have hXl := macL_len d [5, i]
   have HXs := aside (macL_small d [5, i])
   have hYl := stepL_len hXl y
   have HYs := aside (stepL_small HXs.out y)
   obtain ⟨X, hX⟩ : ∃ X, X = macL d [5, i] := ⟨_, rfl⟩
   have HXe := aside hX
   obtain ⟨Y, hY⟩ : ∃ Y, Y = stepL y X := ⟨_, rfl⟩
   have HYe := aside hY
   rw [← hX] at HXs hXl hYl HYs
   rw [← hX] at HNx
   rw [← hY] at HNx hYl HYs
   have HXl := aside hXl
   have HYl := aside hYl
   have HS9 : Hid ((Tryz.prog.info? 23).map (·.size) = some (rowY Y).size) := aside (by rw [rowY_size, hYl]; kernel_rfl)
   have HS8 : Hid ((rowY (List.replicate 32 0)).size = (rowY Y).size) := aside (by rw [rowY_size, rowY_size, hYl]; rfl)
   have HFl := aside hfl
   have HAe := aside hAe
   rw [hAe]
   have HGr := aside (HG.out.below HBwr.out)
   clear hAe hnb hnc hcr hnx hX hY hXl hYl hfl
   go_upto_region 6 with fail
   refine wp_region_held_drew (S := (fun w' => Below wr.heap.size wr w')) (by kernel_rfl) (below_drawn (Below.refl _ _) 1) (fun hS => ?_)
   refine tkH (i := 0) (v := _) rfl (by kernel_rfl) (fun _ _ _ h => h) (yieldsIf_load_mid (by rfl) _ _ rfl B0 0 rfl (u8s d) _ (fun W hW => (D0r.out.below hW l0r).range) Tryz.underlying23 rfl (by rw [u8s_len, HDl.out]; exact digInfo)) hS ?_
   (repeat (first | simp only [q1] | simp only [q2] | simp only [q3] | simp only [Act.put] | simp only [q4] | simp only [q5] | simp only [q6]))
   refine tkH (i := 1) (v := ?_) rfl (by kernel_rfl) (fun _ _ _ h => h) (Or.inl ⟨by rfl, ?_⟩) hS ?_
   rotate_left
   ·(intro W hSw; (try dsimp only at hSw); go_simp; try with_reducible rfl)
   (repeat (first | simp only [q1] | simp only [q2] | simp only [q3] | simp only [Act.put] | simp only [q4] | simp only [q5] | simp only [q6]))
   refine tkH (i := 3) (v := ?_) rfl (by kernel_rfl) (fun _ _ _ h => h) (Or.inl ⟨by rfl, ?_⟩) hS ?_
   rotate_left
   ·(intro W hSw; (try dsimp only at hSw); go_simp; try with_reducible rfl)
   (repeat (first | simp only [q1] | simp only [q2] | simp only [q3] | simp only [Act.put] | simp only [q4] | simp only [q5] | simp only [q6]))
   refine tkH (i := 4) (v := ?_) rfl (by kernel_rfl) (fun _ _ _ h => h) (Or.inl ⟨by rfl, ?_⟩) hS ?_
   rotate_left
   ·(intro W hSw; (try dsimp only at hSw); go_simp; try with_reducible rfl)
   (repeat (first | simp only [q1] | simp only [q2] | simp only [q3] | simp only [Act.put] | simp only [q4] | simp only [q5] | simp only [q6]))
   refine tkH (i := 5) (v := ?_) rfl (by kernel_rfl) (fun _ _ _ h => h) (Or.inl ⟨by rfl, ?_⟩) hS ?_
   rotate_left
   ·(intro W hSw; (try dsimp only at hSw); go_simp; try with_reducible rfl)
   (repeat (first | simp only [q1] | simp only [q2] | simp only [q3] | simp only [Act.put] | simp only [q4] | simp only [q5] | simp only [q6]))
   refine tkH (i := 6) (v := ?_) rfl (by kernel_rfl) (fun _ _ _ h => h) (Or.inl ⟨by rfl, ?_⟩) hS ?_
   rotate_left
   ·(intro W hSw; (try dsimp only at hSw); have hx9 : W.cell? ⟨nb, no + i, none⟩ = some (.int .i64 (y : Int)) := (hSw.cell (p := ⟨nb, no + i, none⟩) hnbr).trans HCr.out; go_simp; try with_reducible rfl)
   (repeat (first | simp only [q1] | simp only [q2] | simp only [q3] | simp only [Act.put] | simp only [q4] | simp only [q5] | simp only [q6]))
   generalize wr.drew = x0 at hS ⊢
   have HH0 : Hid (Below wr.heap.size wr x0) := aside hS
   refine wpAnyH_all (rs := [2, 8]) (by kernel_rfl) (by simp) ?_
   intro m9 hm9
   rcases List.mem_cons.1 hm9 with rfl | hm9
   ·refine wpOp_of_list rfl ?_
    (repeat (first | simp only [q1] | simp only [q2] | simp only [q3]))
    go_wp2_with (first
     | (go_at_call 53; refine (show Calls _ _ #[digV d, _] _ _ from rsec_any d HDl.out HDb.out i (by omega) x0).mono ?_; rintro e x1 ⟨rfl, hb9⟩; have HK1 := aside hb9; have HH1 : Hid (Below wr.heap.size wr x1) := aside (HH0.out.trans (hb9.mono HH0.out.size)); clear hb9)
     | fail)
    rw [← HXe.out]
    change _ ∧ _
    refine ⟨HH1.out, ?_⟩
    (try dsimp only)
    (repeat (first | simp only [q1] | simp only [q2] | simp only [q3] | simp only [Act.put] | simp only [q4] | simp only [q5] | simp only [q6]))
    refine wpAnyH_all (rs := [7, 8]) (by kernel_rfl) (by simp) ?_
    intro m9 hm9
    rcases List.mem_cons.1 hm9 with rfl | hm9
    ·refine wpOp_of_list rfl ?_
     (repeat (first | simp only [q1] | simp only [q2] | simp only [q3]))
     go_wp2_with (first
      | (go_at_call 52; refine (show Calls _ _ #[digV X, _] _ _ from rstep_any X HXl.out HXs.out y (by omega) x1 (HGr.out.below HH1.out)).mono ?_; rintro e x2 ⟨rfl, hb9⟩; have HK2 := aside hb9; have HH2 : Hid (Below wr.heap.size wr x2) := aside (HH1.out.trans (hb9.mono HH1.out.size)); clear hb9)
      | fail)
     rw [← HYe.out]
     change _ ∧ _
     refine ⟨HH2.out, ?_⟩
     (try dsimp only)
     (repeat (first | simp only [q1] | simp only [q2] | simp only [q3] | simp only [Act.put] | simp only [q4] | simp only [q5] | simp only [q6]))
     refine oneL (i := 8) (by kernel_rfl) rfl ?_
     (repeat (first | simp only [q1] | simp only [q2] | simp only [q3]))
     go_wp2_with fail
     change _ ∧ _
     refine ⟨HH2.out.alloc HH2.out.size _, ?_⟩
     (try dsimp only)
     (repeat (first | simp only [q1] | simp only [q2] | simp only [q3] | simp only [Act.put] | simp only [q4] | simp only [q5] | simp only [q6]))
     generalize hx3 : World.alloc x2 _ = x3
     have DZ3 : Hid (BlkY x3 x2.heap.size 23 (List.replicate 32 0)) := aside (by rw [← hx3]; exact BlkY.new x2 23 (List.replicate 32 0))
     have HK3 : Hid (Below x2.heap.size x2 x3) := aside (by rw [← hx3]; exact (Below.refl _ _).alloc (Nat.le_refl _) _)
     have HH3 : Hid (Below wr.heap.size wr x3) := aside (HH2.out.trans (HK3.out.mono HH2.out.size))
     obtain ⟨bz, hbz0⟩ : ∃ bz, bz = x2.heap.size := ⟨_, rfl⟩
     rw [← hbz0] at DZ3 ⊢
     have hbz : wr.heap.size ≤ bz := by have := HH2.out.size; omega
     have DZf := DZ3
     clear hbz0 hx3
     refine oneL (i := 9) (by kernel_rfl) rfl ?_
     (repeat (first | simp only [q1] | simp only [q2] | simp only [q3]))
     have DZ := aside (show BlkY x3 bz 23 (List.replicate 32 0) from DZf.out)
     have HSt : Hid (Below wr.heap.size wr (x3.setRow bz (rowY Y))) := aside (below_setRow HH3.out _ hbz _)
     have DY2 : Hid (BlkY (x3.setRow bz (rowY Y)) bz 23 Y) := aside (setRow_heap _ _ _ _ _ _ DZ.out)
     go_wp2_with (first
      | (refine wpList_store_row rfl 23 (.tmp 8) (.tmp 22) rfl bz (rowY Y) rfl rfl 23 (rowY (List.replicate 32 0)) DZ.out HS9.out HS8.out (rowY_one _) ?_)
      | fail)
     change _ ∧ _
     refine ⟨HSt.out, ?_⟩
     (try dsimp only)
     (repeat (first | simp only [q1] | simp only [q2] | simp only [q3] | simp only [Act.put] | simp only [q4] | simp only [q5] | simp only [q6]))
     refine wpAnyH_done (by kernel_rfl) ?_ _
     generalize (x3.setRow bz (rowY Y)) = w4 at HSt DY2 ⊢
     have HV4 := aside (HV.out.below HSt.out)
     have HYd : Hid (YSl w4 w4.heap.size (some ⟨bz, 0, none⟩) 32 Y) := aside (DY2.out.sl HYl.out DY2.out.lt)
     have HB4 : Hid (Below w2.heap.size w2 w4) := aside (HB.out.trans (HSt.out.mono HB.out.size))
     have hz4 := HB4.out.size
     have hlf := HFl.out
     have hly := HYl.out
     go_wp2_with (first
      | (at_builtin; refine wpList_bcat rfl (.tmp 23) (.tmp 24) rfl w2.heap.size rfl HV4.out rfl rfl HYd.out (by omega) hz4 ?_; intro v5 w5 hv5 hb5 hk5)
      | fail)
     have HV5 : Hid (BRow w5 w2.heap.size v5 ((sigN d (digL m) (i + 1)).flatMap id)) := aside (by rw [HNx.out]; exact hv5)
     exact ⟨⟨i + 1, by omega, by go_num, HV5, aside (HB4.out.trans hb5)⟩, by simp [Go.RowKit.intOf]; omega⟩
    obtain rfl := List.mem_singleton.1 hm9
    refine wpOp_of_list rfl ?_
    (repeat (first | simp only [q1] | simp only [q2] | simp only [q3]))
    go_wp2_with fail
    change _ ∧ _
    refine ⟨HH1.out.alloc HH1.out.size _, ?_⟩
    (try dsimp only)
    (repeat (first | simp only [q1] | simp only [q2] | simp only [q3] | simp only [Act.put] | simp only [q4] | simp only [q5] | simp only [q6]))
    generalize hx2 : World.alloc x1 _ = x2
    have DZ2 : Hid (BlkY x2 x1.heap.size 23 (List.replicate 32 0)) := aside (by rw [← hx2]; exact BlkY.new x1 23 (List.replicate 32 0))
    have HK2 : Hid (Below x1.heap.size x1 x2) := aside (by rw [← hx2]; exact (Below.refl _ _).alloc (Nat.le_refl _) _)
    have HH2 : Hid (Below wr.heap.size wr x2) := aside (HH1.out.trans (HK2.out.mono HH1.out.size))
    obtain ⟨bz, hbz0⟩ : ∃ bz, bz = x1.heap.size := ⟨_, rfl⟩
    rw [← hbz0] at DZ2 ⊢
    have hbz : wr.heap.size ≤ bz := by have := HH1.out.size; omega
    have DZf := DZ2
    clear hbz0 hx2
    refine oneL (i := 7) (by kernel_rfl) rfl ?_
    (repeat (first | simp only [q1] | simp only [q2] | simp only [q3]))
    go_wp2_with (first
     | (go_at_call 52; refine (show Calls _ _ #[digV X, _] _ _ from rstep_any X HXl.out HXs.out y (by omega) x2 (HGr.out.below HH2.out)).mono ?_; rintro e x3 ⟨rfl, hb9⟩; have HK3 := aside hb9; have HH3 : Hid (Below wr.heap.size wr x3) := aside (HH2.out.trans (hb9.mono HH2.out.size)); clear hb9)
     | fail)
    rw [← HYe.out]
    change _ ∧ _
    refine ⟨HH3.out, ?_⟩
    (try dsimp only)
    (repeat (first | simp only [q1] | simp only [q2] | simp only [q3] | simp only [Act.put] | simp only [q4] | simp only [q5] | simp only [q6]))
    have DZf : Hid (BlkY x3 bz 23 (List.replicate 32 0)) := aside (DZf.out.below HK3.out DZf.out.lt)
    refine oneL (i := 9) (by kernel_rfl) rfl ?_
    (repeat (first | simp only [q1] | simp only [q2] | simp only [q3]))
    have DZ := aside (show BlkY x3 bz 23 (List.replicate 32 0) from DZf.out)
    have HSt : Hid (Below wr.heap.size wr (x3.setRow bz (rowY Y))) := aside (below_setRow HH3.out _ hbz _)
    have DY2 : Hid (BlkY (x3.setRow bz (rowY Y)) bz 23 Y) := aside (setRow_heap _ _ _ _ _ _ DZ.out)
    go_wp2_with (first
     | (refine wpList_store_row rfl 23 (.tmp 8) (.tmp 22) rfl bz (rowY Y) rfl rfl 23 (rowY (List.replicate 32 0)) DZ.out HS9.out HS8.out (rowY_one _) ?_)
     | fail)
    change _ ∧ _
    refine ⟨HSt.out, ?_⟩
    (try dsimp only)
    (repeat (first | simp only [q1] | simp only [q2] | simp only [q3] | simp only [Act.put] | simp only [q4] | simp only [q5] | simp only [q6]))
    refine wpAnyH_done (by kernel_rfl) ?_ _
    generalize (x3.setRow bz (rowY Y)) = w4 at HSt DY2 ⊢
    have HV4 := aside (HV.out.below HSt.out)
    have HYd : Hid (YSl w4 w4.heap.size (some ⟨bz, 0, none⟩) 32 Y) := aside (DY2.out.sl HYl.out DY2.out.lt)
    have HB4 : Hid (Below w2.heap.size w2 w4) := aside (HB.out.trans (HSt.out.mono HB.out.size))
    have hz4 := HB4.out.size
    have hlf := HFl.out
    have hly := HYl.out
    go_wp2_with (first
     | (at_builtin; refine wpList_bcat rfl (.tmp 23) (.tmp 24) rfl w2.heap.size rfl HV4.out rfl rfl HYd.out (by omega) hz4 ?_; intro v5 w5 hv5 hb5 hk5)
     | fail)
    have HV5 : Hid (BRow w5 w2.heap.size v5 ((sigN d (digL m) (i + 1)).flatMap id)) := aside (by rw [HNx.out]; exact hv5)
    exact ⟨⟨i + 1, by omega, by go_num, HV5, aside (HB4.out.trans hb5)⟩, by simp [Go.RowKit.intOf]; omega⟩
   obtain rfl := List.mem_singleton.1 hm9
   refine wpOp_of_list rfl ?_
   (repeat (first | simp only [q1] | simp only [q2] | simp only [q3]))
   go_wp2_with fail
   change _ ∧ _
   refine ⟨HH0.out.alloc HH0.out.size _, ?_⟩
   (try dsimp only)
   (repeat (first | simp only [q1] | simp only [q2] | simp only [q3] | simp only [Act.put] | simp only [q4] | simp only [q5] | simp only [q6]))
   generalize hx1 : World.alloc x0 _ = x1
   have DZ1 : Hid (BlkY x1 x0.heap.size 23 (List.replicate 32 0)) := aside (by rw [← hx1]; exact BlkY.new x0 23 (List.replicate 32 0))
   have HK1 : Hid (Below x0.heap.size x0 x1) := aside (by rw [← hx1]; exact (Below.refl _ _).alloc (Nat.le_refl _) _)
   have HH1 : Hid (Below wr.heap.size wr x1) := aside (HH0.out.trans (HK1.out.mono HH0.out.size))
   obtain ⟨bz, hbz0⟩ : ∃ bz, bz = x0.heap.size := ⟨_, rfl⟩
   rw [← hbz0] at DZ1 ⊢
   have hbz : wr.heap.size ≤ bz := by have := HH0.out.size; omega
   have DZf := DZ1
   clear hbz0 hx1
   refine oneL (i := 2) (by kernel_rfl) rfl ?_
   (repeat (first | simp only [q1] | simp only [q2] | simp only [q3]))
   go_wp2_with (first
    | (go_at_call 53; refine (show Calls _ _ #[digV d, _] _ _ from rsec_any d HDl.out HDb.out i (by omega) x1).mono ?_; rintro e x2 ⟨rfl, hb9⟩; have HK2 := aside hb9; have HH2 : Hid (Below wr.heap.size wr x2) := aside (HH1.out.trans (hb9.mono HH1.out.size)); clear hb9)
    | fail)
   rw [← HXe.out]
   change _ ∧ _
   refine ⟨HH2.out, ?_⟩
   (try dsimp only)
   (repeat (first | simp only [q1] | simp only [q2] | simp only [q3] | simp only [Act.put] | simp only [q4] | simp only [q5] | simp only [q6]))
   have DZf : Hid (BlkY x2 bz 23 (List.replicate 32 0)) := aside (DZf.out.below HK2.out DZf.out.lt)
   refine oneL (i := 7) (by kernel_rfl) rfl ?_
   (repeat (first | simp only [q1] | simp only [q2] | simp only [q3]))
   go_wp2_with (first
    | (go_at_call 52; refine (show Calls _ _ #[digV X, _] _ _ from rstep_any X HXl.out HXs.out y (by omega) x2 (HGr.out.below HH2.out)).mono ?_; rintro e x3 ⟨rfl, hb9⟩; have HK3 := aside hb9; have HH3 : Hid (Below wr.heap.size wr x3) := aside (HH2.out.trans (hb9.mono HH2.out.size)); clear hb9)
    | fail)
   rw [← HYe.out]
   change _ ∧ _
   refine ⟨HH3.out, ?_⟩
   (try dsimp only)
   (repeat (first | simp only [q1] | simp only [q2] | simp only [q3] | simp only [Act.put] | simp only [q4] | simp only [q5] | simp only [q6]))
   have DZf : Hid (BlkY x3 bz 23 (List.replicate 32 0)) := aside (DZf.out.below HK3.out DZf.out.lt)
   refine oneL (i := 9) (by kernel_rfl) rfl ?_
   (repeat (first | simp only [q1] | simp only [q2] | simp only [q3]))
   have DZ := aside (show BlkY x3 bz 23 (List.replicate 32 0) from DZf.out)
   have HSt : Hid (Below wr.heap.size wr (x3.setRow bz (rowY Y))) := aside (below_setRow HH3.out _ hbz _)
   have DY2 : Hid (BlkY (x3.setRow bz (rowY Y)) bz 23 Y) := aside (setRow_heap _ _ _ _ _ _ DZ.out)
   go_wp2_with (first
    | (refine wpList_store_row rfl 23 (.tmp 8) (.tmp 22) rfl bz (rowY Y) rfl rfl 23 (rowY (List.replicate 32 0)) DZ.out HS9.out HS8.out (rowY_one _) ?_)
    | fail)
   change _ ∧ _
   refine ⟨HSt.out, ?_⟩
   (try dsimp only)
   (repeat (first | simp only [q1] | simp only [q2] | simp only [q3] | simp only [Act.put] | simp only [q4] | simp only [q5] | simp only [q6]))
   refine wpAnyH_done (by kernel_rfl) ?_ _
   generalize (x3.setRow bz (rowY Y)) = w4 at HSt DY2 ⊢
   have HV4 := aside (HV.out.below HSt.out)
   have HYd : Hid (YSl w4 w4.heap.size (some ⟨bz, 0, none⟩) 32 Y) := aside (DY2.out.sl HYl.out DY2.out.lt)
   have HB4 : Hid (Below w2.heap.size w2 w4) := aside (HB.out.trans (HSt.out.mono HB.out.size))
   have hz4 := HB4.out.size
   have hlf := HFl.out
   have hly := HYl.out
   go_wp2_with (first
    | (at_builtin; refine wpList_bcat rfl (.tmp 23) (.tmp 24) rfl w2.heap.size rfl HV4.out rfl rfl HYd.out (by omega) hz4 ?_; intro v5 w5 hv5 hb5 hk5)
    | fail)
   have HV5 : Hid (BRow w5 w2.heap.size v5 ((sigN d (digL m) (i + 1)).flatMap id)) := aside (by rw [HNx.out]; exact hv5)
   exact ⟨⟨i + 1, by omega, by go_num, HV5, aside (HB4.out.trans hb5)⟩, by simp [Go.RowKit.intOf]; omega⟩
  ·obtain rfl : i = 67 := by omega
   clear hin
   go_wp2
   go_ret
   exact ⟨u6, rfl, HV.out.less (by have := B1.out.size; omega), B1.out.trans ((HB2.out.trans (HB.out.mono HB2.out.size)).mono B1.out.size)⟩
end Go.Proofs.YtbpabjhcjffkmaaGreatDoor
