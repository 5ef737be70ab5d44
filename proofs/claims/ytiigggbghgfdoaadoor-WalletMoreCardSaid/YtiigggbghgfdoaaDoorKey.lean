/- mac.Key, the secrets of a key. Conditions: named in each theorem. -/
import Derived.Test.YtiigggbghgfdoaaDoorStep
namespace Go.Proofs.YtiigggbghgfdoaaDoor
open Go.RowKit Go.ChangeShapes Go.WideShapes Go.ChangeAt

theorem zinfo (X : List Nat) (h : X.length = 32) : (Tryd.prog.info? 23).map (·.size) = some (rowY X).size := by rw [rowY_size, h]; kernel_rfl
theorem zsame (X Y : List Nat) (h : X.length = 32) (h2 : Y.length = 32) : (rowY X).size = (rowY Y).size := by rw [rowY_size, rowY_size, h, h2]
theorem zlen : (List.replicate 32 0 : List Nat).length = 32 := by simp
set_option maxHeartbeats 8000000 in
set_option maxRecDepth 100000 in
theorem key_any (d : List Nat) (hd : d.length = 32) (hb : ∀ x ∈ d, x < 256) (ms : List Nat) (M : Option Addr) (mn mc : Nat) (w : World) (hm : YSl w w.heap.size M mn ms) (hmn : mn ≤ 1000) (hmb : ∀ x ∈ ms, x < 256) (hg : RoundsAt w) :
    Calls Tryd.prog 44 #[digV d, .slice M mn mc] w (fun e w' => e = .returned (digV (macL d ms)) ∧ Below w.heap.size w w') := by
  have HG := aside hg
  have HM := aside hm
  have HMb := aside hmb
  have HDb := aside hb
  have HDl := aside hd
  have B1 : Hid (Below w.heap.size w ((w.alloc (.cells (rowY d) 23)).alloc (.cells (rowY (List.replicate 32 0)) 23))) := aside (((Below.refl _ _).alloc (Nat.le_refl _) _).alloc (by simp) _)
  have D0 : Hid (BlkY ((w.alloc (.cells (rowY d) 23)).alloc (.cells (rowY (List.replicate 32 0)) 23)) w.heap.size 23 d) := aside ((BlkY.new w _ _).alloc _)
  have D1 : Hid (BlkY ((w.alloc (.cells (rowY d) 23)).alloc (.cells (rowY (List.replicate 32 0)) 23)) (w.heap.size + 1) 23 (List.replicate 32 0)) := aside (by
    have h := BlkY.new (w.alloc (.cells (rowY d) 23)) 23 (List.replicate 32 0)
    rwa [show (w.alloc (.cells (rowY d) 23)).heap.size = w.heap.size + 1 by simp] at h)
  clear hg hm hmb hb hd
  unfold digV
  go_enter Tryd.func44, Tryd.ntmps44
  go_wp2_with fail
  change Calls _ _ _ ((w.alloc (.cells (rowY d) 23)).alloc (.cells (rowY (List.replicate 32 0)) 23)) _
  generalize ((w.alloc (.cells (rowY d) 23)).alloc (.cells (rowY (List.replicate 32 0)) 23)) = w1 at B1 D0 D1 ⊢
  have HK1 : Hid (YSl w1 w1.heap.size (some ⟨w.heap.size, 0, none⟩) 32 d) := aside (D0.out.sl HDl.out D0.out.lt)
  have HM1 : Hid (YSl w1 w1.heap.size M mn ms) := aside ((Sl.below HM.out B1.out).more B1.out.size)
  refine (mac_any d (some ⟨w.heap.size, 0, none⟩) 32 32 ms M mn mc w1 HK1.out HM1.out (by omega) hmn HDb.out HMb.out (HG.out.below B1.out)).mono ?_
  rintro e w9 ⟨rfl, hb9⟩
  have HB9 := aside (B1.out.trans (hb9.mono B1.out.size))
  have D09 := aside (D1.out.below hb9 D1.out.lt)
  have hXl := macL_len d ms
  have HS9 := aside (zinfo _ hXl)
  have HS8 := aside (zsame _ _ zlen hXl)
  clear hb9 hXl
  go_wp2_with (first
    | (refine wpList_store_row rfl 23 (.tmp 4) (.tmp 7) rfl (w.heap.size + 1) (rowY (macL d ms)) rfl rfl 23 (rowY (List.replicate 32 0)) D09.out HS9.out HS8.out (rowY_one _) ?_)
    | fail)
  refine bodyPost_ret (results_cell_row rfl _ _ (w.heap.size + 1) 23 (rowY (macL d ms)) (0, 0) _ rfl (setRow_heap w9 (w.heap.size + 1) _ _ _ _ D09.out) Tryd.underlying23 rfl HS9.out) rfl ?_
  exact ⟨rfl, below_setRow HB9.out _ (Nat.le_succ _) _⟩
set_option maxHeartbeats 8000000 in
set_option maxRecDepth 100000 in
theorem secret_any (d : List Nat) (hd : d.length = 32) (hb : ∀ x ∈ d, x < 256) (i : Nat) (hi : i < 256) (sb : Nat) (w : World) (hs : BlkY w sb 23 d) (hg : RoundsAt w) :
    Calls Tryd.prog 43 #[.int .i64 (i : Int), .pointer (some ⟨sb, 0, none⟩)] w (fun e w' => e = .returned (digV (macL d [5, i])) ∧ Below w.heap.size w w') := by
  have HG := aside hg
  have HDb := aside hb
  have HDl := aside hd
  have B1 : Hid (Below w.heap.size w (w.alloc (.cells (rowY (List.replicate 32 0)) 23))) := aside ((Below.refl _ _).alloc (Nat.le_refl _) _)
  have D1 : Hid (BlkY (w.alloc (.cells (rowY (List.replicate 32 0)) 23)) w.heap.size 23 (List.replicate 32 0)) := aside (BlkY.new w _ _)
  have DS := aside (hs.below B1.out hs.lt)
  have Z1 : Hid ((w.alloc (.cells (rowY (List.replicate 32 0)) 23)).heap.size = w.heap.size + 1) := aside (by simp)
  have hwr : IntKind.u8.wrap (i : Int) = (i : Int) := by rw [IntKind.wrap_u8]; omega
  have HS7 := aside (zinfo d hd)
  clear hg hb hd hs
  go_enter Tryd.func43, Tryd.ntmps43
  go_upto_region 1 with fail
  change Code.wp _ _ _ _ (w.alloc (.cells (rowY (List.replicate 32 0)) 23))
  generalize (w.alloc (.cells (rowY (List.replicate 32 0)) 23)) = w1 at B1 D1 DS Z1 ⊢
  have hz1 : w.heap.size < w1.heap.size := D1.out.lt
  have B2 : Hid (Below w1.heap.size w1 (w1.alloc (.cells #[.int .u8 ((5 : Nat) : Int), .int .u8 (i : Int)] 5))) := aside ((Below.refl _ _).alloc (Nat.le_refl _) _)
  have M2 : Hid (YSl (w1.alloc (.cells #[.int .u8 ((5 : Nat) : Int), .int .u8 (i : Int)] 5)) (w1.alloc (.cells #[.int .u8 ((5 : Nat) : Int), .int .u8 (i : Int)] 5)).heap.size (some ⟨w1.heap.size, 0, none⟩) 2 [5, i]) := aside ((show BlkY (w1.alloc (.cells #[.int .u8 ((5 : Nat) : Int), .int .u8 (i : Int)] 5)) w1.heap.size 5 [5, i] from BlkY.new w1 5 [5, i]).sl rfl (by simp))
  go_wp2_with (first
    | (refine wpList_load_row rfl 23 (.tmp 1) rfl sb rfl 23 (rowY d) (0, 0) _ DS.out Tryd.underlying23 rfl HS7.out ?_)
    | fail)
  have hBB : Below w.heap.size w (w1.alloc (.cells #[.int .u8 ((5 : Nat) : Int), .int .u8 (i : Int)] 5)) := B1.out.trans (B2.out.mono B1.out.size)
  refine (show Calls _ _ #[digV d, _] _ _ from key_any d HDl.out HDb.out [5, i] (some ⟨w1.heap.size, 0, none⟩) 2 2 _ M2.out (by omega) (by intro x hx; simp at hx; rcases hx with rfl | rfl <;> omega) (HG.out.below hBB)).mono ?_
  rintro e w9 ⟨rfl, hb9⟩
  have HB9 := aside (hBB.trans (hb9.mono hBB.size))
  have D09 := aside ((D1.out.below B2.out D1.out.lt).below hb9 (Nat.lt_of_lt_of_le hz1 B2.out.size))
  have hXl := macL_len d [5, i]
  have HS9 := aside (zinfo _ hXl)
  have HS8 := aside (zsame _ _ zlen hXl)
  clear hb9 hXl hBB
  go_wp2_with (first
    | (refine wpList_store_row rfl 23 (.tmp 3) (.tmp 8) rfl w.heap.size (rowY (macL d [5, i])) rfl rfl 23 (rowY (List.replicate 32 0)) D09.out HS9.out HS8.out (rowY_one _) ?_)
    | fail)
  refine bodyPost_ret (results_cell_row rfl _ _ w.heap.size 23 (rowY (macL d [5, i])) (0, 0) _ rfl (setRow_heap w9 w.heap.size _ _ _ _ D09.out) Tryd.underlying23 rfl HS9.out) rfl ?_
  exact ⟨rfl, below_setRow HB9.out _ (Nat.le_refl _) _⟩
theorem fifteen_any (i : Int) (w : World) : Calls Tryd.prog 29 #[.int .i64 i] w (fun e w' => e = .returned (.int .i64 ((15 : Nat) : Int)) ∧ w' = w) := by
  go_enter Tryd.func29, Tryd.ntmps29
  go_wp2
  go_ret
  exact ⟨rfl, rfl⟩
end Go.Proofs.YtiigggbghgfdoaaDoor
