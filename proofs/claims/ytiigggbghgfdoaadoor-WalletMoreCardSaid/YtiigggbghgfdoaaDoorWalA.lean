/- wallet.Seed and wallet.Lock: the walks. Conditions: named in each theorem. -/
import Derived.Test.YtiigggbghgfdoaaDoorSizS
import Derived.Test.YtiigggbghgfdoaaDoorInv
import Derived.OrdersHeld
import Derived.Deep.RegionHeld3
import Derived.Deep.MidRow
namespace Go.Proofs.YtiigggbghgfdoaaDoor
open Go.RowKit Go.ChangeShapes Go.WideShapes Go.ChangeAt

theorem bytes_one {bs : List Nat} : ∀ u ∈ bs.flatMap byV, u.oneCell' = true := by
  intro u hu
  obtain ⟨x, -, hx⟩ := List.mem_flatMap.1 hu
  simp only [byV, List.mem_singleton] at hx
  rw [hx]; rfl
/-- The seed of a wallet's key. -/
def seedL (d : List Nat) (i : Nat) : List Nat := macL d [24, i]
theorem seedL_len (d : List Nat) (i : Nat) : (seedL d i).length = 32 := macL_len _ _
theorem seedL_small (d : List Nat) (i : Nat) : ∀ x ∈ seedL d i, x < 256 := macL_small _ _
set_option maxHeartbeats 20000000 in
set_option maxRecDepth 100000 in
theorem seed_any (d : List Nat) (hd : d.length = 32) (hb : ∀ x ∈ d, x < 256) (i : Nat) (hi : i < 253) (w : World) (hg : RoundsAt w) :
    Calls Tryd.prog 17 #[digV d, .int .i64 (i : Int)] w (fun e w' => e = .returned (digV (seedL d i)) ∧ Below w.heap.size w w') := by
  have HG := aside hg
  have HDb := aside hb
  have HDl := aside hd
  have B1 : Hid (Below w.heap.size w ((w.alloc (.cells (rowY d) 23)).alloc (.cells (rowY (List.replicate 32 0)) 23))) := aside (((Below.refl _ _).alloc (Nat.le_refl _) _).alloc (by simp) _)
  have D0 : Hid (BlkY ((w.alloc (.cells (rowY d) 23)).alloc (.cells (rowY (List.replicate 32 0)) 23)) w.heap.size 23 d) := aside ((BlkY.new w _ _).alloc _)
  have D1 : Hid (BlkY ((w.alloc (.cells (rowY d) 23)).alloc (.cells (rowY (List.replicate 32 0)) 23)) (w.heap.size + 1) 23 (List.replicate 32 0)) := aside (by
    have h := BlkY.new (w.alloc (.cells (rowY d) 23)) 23 (List.replicate 32 0)
    rwa [show (w.alloc (.cells (rowY d) 23)).heap.size = w.heap.size + 1 by simp] at h)
  clear hg hb hd
  unfold digV
  go_enter Tryd.func17, Tryd.ntmps17
  go_wp2_with fail
  change Calls _ _ _ ((w.alloc (.cells (rowY d) 23)).alloc (.cells (rowY (List.replicate 32 0)) 23)) _
  generalize ((w.alloc (.cells (rowY d) 23)).alloc (.cells (rowY (List.replicate 32 0)) 23)) = w1 at B1 D0 D1 ⊢
  obtain ⟨B0, hB0⟩ : ∃ B0, B0 = w.heap.size := ⟨_, rfl⟩
  have EB := aside hB0
  simp only [← hB0] at D0 D1 ⊢
  clear hB0
  refine (sizeW_any i hi w1).mono ?_
  rintro e w2 ⟨G, c, rfl, hy, hb2⟩
  have HB2 := aside (B1.out.trans (hb2.mono B1.out.size))
  have D02 := aside (D0.out.below hb2 D0.out.lt)
  have D12 := aside (D1.out.below hb2 D1.out.lt)
  have HY := aside hy
  clear hy hb2 B1 D0 D1
  go_upto_region 4 with fail
  refine wp_region_noPanic ?_
  refine wp_region_held_drew (S := (fun _ => True)) (by kernel_rfl) trivial (fun hS => ?_)
  refine wpAnyH_take (i := 0) (v := ?_) rfl (by kernel_rfl) (by kernel_rfl) (by kernel_rfl) (fun _ _ _ h => h) (Or.inl ⟨by rfl, ?_⟩) hS ?_
  rotate_left
  · (intro W hSw; (try dsimp only at hSw); go_simp; try with_reducible rfl)
  (repeat (first | simp only [List.getElem_toArray] | simp only [List.getElem_cons_succ] | simp only [List.getElem_cons_zero] | simp only [Act.put] | simp only [List.setIfInBounds_toArray] | simp only [List.set_cons_succ] | simp only [List.set_cons_zero]))
  refine wpAnyH_take (i := 2) (v := ?_) rfl (by kernel_rfl) (by kernel_rfl) (by kernel_rfl) (fun _ _ _ h => h) (Or.inl ⟨by rfl, ?_⟩) hS ?_
  rotate_left
  · (intro W hSw; (try dsimp only at hSw); go_simp; try with_reducible rfl)
  (repeat (first | simp only [List.getElem_toArray] | simp only [List.getElem_cons_succ] | simp only [List.getElem_cons_zero] | simp only [Act.put] | simp only [List.setIfInBounds_toArray] | simp only [List.set_cons_succ] | simp only [List.set_cons_zero]))
  refine wpAnyH_all (rs := [1]) (by kernel_rfl) (by simp) ?_
  intro m hm
  obtain rfl := List.mem_singleton.1 hm
  refine wpOp_of_list rfl ?_
  (repeat (first | simp only [List.getElem_toArray] | simp only [List.getElem_cons_succ] | simp only [List.getElem_cons_zero]))
  have hS3 : Below w2.heap.size w2 (w2.alloc (.cells #[.int .u8 ((24 : Nat) : Int)] 5)).drew := below_drawn ((Below.refl _ _).alloc (Nat.le_refl _) _) 1
  have HO3 : Hid ((w2.alloc (.cells #[.int .u8 ((24 : Nat) : Int)] 5)).drew.ownsRow w2.heap.size 5 1 (.slice (some ⟨w2.heap.size, 0, none⟩) 1 1) 1 ([24].flatMap byV)) := aside (row_one w2 24)
  have HS3 := aside hS3
  have HY3 : Hid (YSl (w2.alloc (.cells #[.int .u8 ((24 : Nat) : Int)] 5)).drew w2.heap.size G 1 [i]) := aside (Sl.below HY.out hS3)
  have HK3 : Hid (BlkY (w2.alloc (.cells #[.int .u8 ((24 : Nat) : Int)] 5)).drew B0 23 d) := aside (D02.out.below hS3 D02.out.lt)
  have D13 : Hid (BlkY (w2.alloc (.cells #[.int .u8 ((24 : Nat) : Int)] 5)).drew (B0 + 1) 23 (List.replicate 32 0)) := aside (D12.out.below hS3 D12.out.lt)
  clear hS3
  go_wp2_with fail
  change _ ∧ _
  refine ⟨trivial, ?_⟩
  (try dsimp only)
  (repeat (first | simp only [List.getElem_toArray] | simp only [List.getElem_cons_succ] | simp only [List.getElem_cons_zero] | simp only [Act.put] | simp only [List.setIfInBounds_toArray] | simp only [List.set_cons_succ] | simp only [List.set_cons_zero]))
  refine wpAnyH_all (rs := [3]) (by kernel_rfl) (by simp) ?_
  intro m hm
  obtain rfl := List.mem_singleton.1 hm
  refine wpOp_of_list rfl ?_
  (repeat (first | simp only [List.getElem_toArray] | simp only [List.getElem_cons_succ] | simp only [List.getElem_cons_zero]))
  refine wpList_concat rfl (.tmp 16) (.tmp 17) 49 rfl w2.heap.size (.int .u8 0) 1 1 Tryd.underlying49 byteInfo rfl (by decide) _ 1 _ rfl HO3.out w2.heap.size G 1 c _ rfl HY3.out bytes_one (by decide) (by decide) HS3.out.size ?_
  intro A4 c4 w4 _ _ hown4 hb4 _
  have HY4 : Hid (YSl w4 w4.heap.size A4 2 [24, i]) := aside (Sl.own hown4)
  have HS4 := aside (HS3.out.trans hb4)
  have HK4 := aside (HK3.out.below hb4 D02.out.lt)
  have D14 := aside (D13.out.below hb4 D12.out.lt)
  clear hown4 hb4
  change _ ∧ _
  refine ⟨trivial, ?_⟩
  (try dsimp only)
  (repeat (first | simp only [List.getElem_toArray] | simp only [List.getElem_cons_succ] | simp only [List.getElem_cons_zero] | simp only [Act.put] | simp only [List.setIfInBounds_toArray] | simp only [List.set_cons_succ] | simp only [List.set_cons_zero]))
  refine wpAnyH_all (rs := [4]) (by kernel_rfl) (by simp) ?_
  intro m hm
  obtain rfl := List.mem_singleton.1 hm
  refine wpOp_of_list rfl ?_
  (repeat (first | simp only [List.getElem_toArray] | simp only [List.getElem_cons_succ] | simp only [List.getElem_cons_zero]))
  have HKs : Hid (YSl w4 w4.heap.size (some ⟨B0, 0, none⟩) 32 d) := aside (HK4.out.sl HDl.out HK4.out.lt)
  have HG4 : Hid (RoundsAt w4) := aside (HG.out.below (HB2.out.trans (HS4.out.mono HB2.out.size)))
  go_wp2_with (first
    | (go_at_call 32; refine (mac_any d (some ⟨B0, 0, none⟩) 32 32 [24, i] A4 2 c4 w4 HKs.out HY4.out (by omega) (by omega) HDb.out (by intro x hx; simp at hx; rcases hx with rfl | rfl <;> omega) HG4.out).mono ?_; rintro e w5 ⟨rfl, hb5⟩; have HS5 := aside (HS4.out.trans (hb5.mono HS4.out.size)); have D15 := aside (D14.out.below hb5 D14.out.lt); clear hb5)
    | fail)
  change _ ∧ _
  refine ⟨trivial, ?_⟩
  (try dsimp only)
  (repeat (first | simp only [List.getElem_toArray] | simp only [List.getElem_cons_succ] | simp only [List.getElem_cons_zero] | simp only [Act.put] | simp only [List.setIfInBounds_toArray] | simp only [List.set_cons_succ] | simp only [List.set_cons_zero]))
  refine wpAnyH_all (rs := [5]) (by kernel_rfl) (by simp) ?_
  intro m hm
  obtain rfl := List.mem_singleton.1 hm
  refine wpOp_of_list rfl ?_
  (repeat (first | simp only [List.getElem_toArray] | simp only [List.getElem_cons_succ] | simp only [List.getElem_cons_zero]))
  have hXl := macL_len d [24, i]
  have HS9 := aside (zinfo _ hXl)
  have HS8 := aside (zsame _ _ zlen hXl)
  refine wpList_store_row rfl 23 (.tmp 4) (.tmp 19) rfl (B0 + 1) (rowY (macL d [24, i])) rfl rfl 23 (rowY (List.replicate 32 0)) D15.out HS9.out HS8.out (rowY_one _) ?_
  change _ ∧ _
  refine ⟨trivial, ?_⟩
  (try dsimp only)
  (repeat (first | simp only [List.getElem_toArray] | simp only [List.getElem_cons_succ] | simp only [List.getElem_cons_zero] | simp only [Act.put] | simp only [List.setIfInBounds_toArray] | simp only [List.set_cons_succ] | simp only [List.set_cons_zero]))
  refine wpAnyH_done (by kernel_rfl) ?_ _
  refine NoPanic.normal ?_
  have HB5 : Hid (Below w.heap.size w w5) := aside (HB2.out.trans (HS5.out.mono HB2.out.size))
  go_wp2_with fail
  refine bodyPost_ret (results_cell_row rfl _ _ (B0 + 1) 23 (rowY (macL d [24, i])) (0, 0) _ rfl (setRow_heap w5 (B0 + 1) _ _ _ _ D15.out) Tryd.underlying23 rfl HS9.out) rfl ?_
  exact ⟨rfl, below_setRow HB5.out _ (by rw [EB.out]; omega) _⟩
end Go.Proofs.YtiigggbghgfdoaaDoor
