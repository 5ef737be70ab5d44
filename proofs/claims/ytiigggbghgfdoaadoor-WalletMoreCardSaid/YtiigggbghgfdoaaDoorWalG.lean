/- wallet.Owns: the walk. Conditions: named in each theorem. -/
import Derived.Test.YtiigggbghgfdoaaDoorWalF
import Derived.Test.YtiigggbghgfdoaaDoorInv
import Derived.OrdersHeld
import Derived.Deep.RegionHeld3
import Derived.Deep.MidRow
namespace Go.Proofs.YtiigggbghgfdoaaDoor
open Go.RowKit Go.ChangeShapes Go.WideShapes Go.ChangeAt

theorem BlkY.range {w : World} {b : Nat} {T : TypeId} {l : List Nat} (h : BlkY w b T l) : w.rangeAt b 0 (u8s l) := fun j v hj => by
  have hs : w.heap[b]? = some (.cells (rowY l) T (0, 0)) := h
  rw [Nat.zero_add, cell_of_row w b j _ _ _ hs]
  unfold rowY
  rw [List.getElem?_toArray]
  exact hj
theorem u8s_len (l : List Nat) : (u8s l).length = l.length := by simp [u8s]
theorem outInfo : (Tryd.prog.info? 40).map (·.size) = some 2 := by kernel_rfl
theorem digInfo : (Tryd.prog.info? 23).map (·.size) = some 32 := by kernel_rfl
set_option maxHeartbeats 20000000 in
set_option maxRecDepth 100000 in
theorem Owns_any (d : List Nat) (hd : d.length = 32) (hb : ∀ x ∈ d, x < 256) (n : Int) (hn : n ≤ 100) (os : List ROp) (a : Int) (oA : Option Addr) (on oc : Nat) (w : World) (ho : RSl w w.heap.size oA on os) (hg : RoundsAt w) :
    Calls Tryd.prog 11 #[digV d, .int .i64 n, .agg #[.int .i64 a, .slice oA on oc]] w (fun e w' => e = .returned (.int .i64 (ownF ((List.range n.toNat).map (lockL d)) 0 (os.map ROp.pl))) ∧ Below w.heap.size w w') := by
  have B1 : Hid (Below w.heap.size w ((w.alloc (.cells (rowY d) 23)).alloc (.cells #[.int .i64 a, .slice oA on oc] 40))) := aside (((Below.refl _ _).alloc (Nat.le_refl _) _).alloc (by simp) _)
  have D0 : Hid (BlkY ((w.alloc (.cells (rowY d) 23)).alloc (.cells #[.int .i64 a, .slice oA on oc] 40)) w.heap.size 23 d) := aside ((BlkY.new w _ _).alloc _)
  have D1 : Hid (((w.alloc (.cells (rowY d) 23)).alloc (.cells #[.int .i64 a, .slice oA on oc] 40)).heap[w.heap.size + 1]? = some (.cells #[.int .i64 a, .slice oA on oc] 40 (0, 0))) := aside (by
    have h := heap_alloc_new (w.alloc (.cells (rowY d) 23)) (.cells #[.int .i64 a, .slice oA on oc] 40)
    rwa [show (w.alloc (.cells (rowY d) 23)).heap.size = w.heap.size + 1 by simp] at h)
  have HO := aside ho
  have HDl := aside hd
  have HDb := aside hb
  have HG := aside hg
  clear ho hd hb hg
  unfold digV
  go_enter Tryd.func11, Tryd.ntmps11
  go_upto_region 1 with fail
  change Code.wp _ _ _ _ ((w.alloc (.cells (rowY d) 23)).alloc (.cells #[.int .i64 a, .slice oA on oc] 40))
  generalize ((w.alloc (.cells (rowY d) 23)).alloc (.cells #[.int .i64 a, .slice oA on oc] 40)) = w1 at B1 D0 D1 ⊢
  obtain ⟨B0, hB0⟩ : ∃ B0, B0 = w.heap.size := ⟨_, rfl⟩
  have EB := aside hB0
  simp only [← hB0] at D0 D1 ⊢
  clear hB0
  have l0 := D0.out.lt
  have l1 : B0 + 1 < w1.heap.size := (Array.getElem?_eq_some_iff.1 D1.out).1
  refine wp_region_held_drew (S := (fun w' => Below w1.heap.size w1 w')) (by kernel_rfl) (below_drawn (Below.refl _ _) 1) (fun hS => ?_)
  refine wpAnyH_take (i := 0) (v := _) rfl (by kernel_rfl) (by kernel_rfl) (by kernel_rfl) (fun _ _ _ h => h) (yieldsIf_load_mid (by rfl) _ _ rfl B0 0 rfl (u8s d) _ (fun W hW => (D0.out.below hW l0).range) Tryd.underlying23 rfl (by rw [u8s_len, HDl.out]; exact digInfo)) hS ?_
  (repeat (first | simp only [List.getElem_toArray] | simp only [List.getElem_cons_succ] | simp only [List.getElem_cons_zero] | simp only [Act.put] | simp only [List.setIfInBounds_toArray] | simp only [List.set_cons_succ] | simp only [List.set_cons_zero]))
  refine wpAnyH_take (i := 1) (v := ?_) rfl (by kernel_rfl) (by kernel_rfl) (by kernel_rfl) (fun _ _ _ h => h) (Or.inl ⟨by rfl, ?_⟩) hS ?_
  rotate_left
  · (intro W hSw; (try dsimp only at hSw); go_simp; try with_reducible rfl)
  (repeat (first | simp only [List.getElem_toArray] | simp only [List.getElem_cons_succ] | simp only [List.getElem_cons_zero] | simp only [Act.put] | simp only [List.setIfInBounds_toArray] | simp only [List.set_cons_succ] | simp only [List.set_cons_zero]))
  refine wpAnyH_take (i := 3) (v := _) rfl (by kernel_rfl) (by kernel_rfl) (by kernel_rfl) (fun _ _ _ h => h) (yieldsIf_load_mid (by rfl) _ _ rfl (B0 + 1) 0 rfl [.int .i64 a, .slice oA on oc] _ (fun W hW => fun j v hj => by
    rw [Nat.zero_add, cell_of_row W (B0 + 1) j _ _ _ ((hW.block (B0 + 1) l1).trans D1.out), List.getElem?_toArray]
    exact hj) Tryd.underlying40 rfl outInfo) hS ?_
  (repeat (first | simp only [List.getElem_toArray] | simp only [List.getElem_cons_succ] | simp only [List.getElem_cons_zero] | simp only [Act.put] | simp only [List.setIfInBounds_toArray] | simp only [List.set_cons_succ] | simp only [List.set_cons_zero]))
  refine wpAnyH_all (rs := [2]) (by kernel_rfl) (by simp) ?_
  intro m hm
  obtain rfl := List.mem_singleton.1 hm
  refine wpOp_of_list rfl ?_
  (repeat (first | simp only [List.getElem_toArray] | simp only [List.getElem_cons_succ] | simp only [List.getElem_cons_zero]))
  have hB2 : Below w.heap.size w w1.drew := below_drawn B1.out 1
  go_wp2_with (first
    | (go_at_call 21; refine (show Calls _ _ #[digV d, _] _ _ from locks_any d HDl.out HDb.out n hn w1.drew (HG.out.below hB2)).mono ?_; rintro e w2 ⟨A, c, ls, rfl, hsl, hrs, hlp, hb2⟩; have HSl := aside hsl; have HRs := aside hrs; have HLp := aside hlp; have hS2 : Below w1.heap.size w1 w2 := hS.trans hb2; have HS2 := aside hS2; clear hsl hrs hlp hb2 hS2)
    | fail)
  change _ ∧ _
  refine ⟨HS2.out, ?_⟩
  (try dsimp only)
  (repeat (first | simp only [List.getElem_toArray] | simp only [List.getElem_cons_succ] | simp only [List.getElem_cons_zero] | simp only [Act.put] | simp only [List.setIfInBounds_toArray] | simp only [List.set_cons_succ] | simp only [List.set_cons_zero]))
  refine wpAnyH_all (rs := [4]) (by kernel_rfl) (by simp) ?_
  intro m hm
  obtain rfl := List.mem_singleton.1 hm
  refine wpOp_of_list rfl ?_
  (repeat (first | simp only [List.getElem_toArray] | simp only [List.getElem_cons_succ] | simp only [List.getElem_cons_zero]))
  have HB2 : Hid (Below w.heap.size w w2) := aside (B1.out.trans (HS2.out.mono B1.out.size))
  have HC := aside (owns_any ls os a A oA n.toNat c on oc (by omega) w2 HSl.out HRs.out ((HO.out.below HB2.out).more HB2.out.size))
  rw [HLp.out] at HC
  go_wp2_with (first
    | (go_at_call 22; refine HC.out.mono ?_; rintro e w3 ⟨rfl, hb3⟩; have hS3 : Below w1.heap.size w1 w3 := HS2.out.trans (hb3.mono HS2.out.size); have HS3 := aside hS3; have HB3 := aside (HB2.out.trans (hb3.mono HB2.out.size)); clear hb3 hS3)
    | fail)
  change _ ∧ _
  refine ⟨HS3.out, ?_⟩
  (try dsimp only)
  (repeat (first | simp only [List.getElem_toArray] | simp only [List.getElem_cons_succ] | simp only [List.getElem_cons_zero] | simp only [Act.put] | simp only [List.setIfInBounds_toArray] | simp only [List.set_cons_succ] | simp only [List.set_cons_zero]))
  refine wpAnyH_take (i := 5) (v := ?_) rfl (by kernel_rfl) (by kernel_rfl) (by kernel_rfl) (fun _ _ _ h => h) (Or.inl ⟨by rfl, ?_⟩) HS3.out ?_
  rotate_left
  · (intro W hSw; (try dsimp only at hSw); go_simp; try with_reducible rfl)
  (repeat (first | simp only [List.getElem_toArray] | simp only [List.getElem_cons_succ] | simp only [List.getElem_cons_zero] | simp only [Act.put] | simp only [List.setIfInBounds_toArray] | simp only [List.set_cons_succ] | simp only [List.set_cons_zero]))
  refine wpAnyH_done (by kernel_rfl) ?_ _
  go_wp2_with fail
  go_ret
  exact ⟨rfl, HB3.out⟩
end Go.Proofs.YtiigggbghgfdoaaDoor
