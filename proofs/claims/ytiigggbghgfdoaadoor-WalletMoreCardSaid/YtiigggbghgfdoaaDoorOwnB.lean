/- The walk of WalletOwns. Conditions: named in each theorem. -/
import Derived.Test.YtiigggbghgfdoaaDoorOwnA
namespace Go.Proofs.YtiigggbghgfdoaaDoor
open Go.RowKit Go.ChangeShapes Go.WideShapes Go.ChangeAt

theorem lock_short {w : World} {N : Nat} {A : Option Addr} {n : Nat} {rs : List ROp} {d : List Nat} {i : Nat} (h : RSl w N A n rs) (hp : rs.map ROp.pl = lockL d i) : ∀ r ∈ rs, r.dn ≤ 1000 := fun r hr => by
  have h1 := YSl.len1 (h.data r hr)
  have h2 : r.pl ∈ lockL d i := hp ▸ List.mem_map_of_mem hr
  unfold lockL ROp.pl at h2
  simp only [List.mem_cons, List.not_mem_nil, or_false, Prod.mk.injEq] at h2
  rcases h2 with ⟨-, -, h2⟩ | ⟨-, -, h2⟩
  · rw [← h1, h2, pubL_len]; omega
  · rw [← h1, h2]; simp
set_option maxHeartbeats 40000000 in
set_option maxRecDepth 100000 in
theorem wown_any (da db : List Nat) (hda : da.length = 32) (hba : ∀ x ∈ da, x < 256) (hdb : db.length = 32) (hbb : ∀ x ∈ db, x < 256) (cs : List RCoin) (A : Option Addr) (n c : Nat) (w : World) (h : CSl w w.heap.size A n cs) (hg : RoundsAt w) :
    Calls Tryd.prog 3 #[digV da, digV db, .slice A n c] w (fun e w' => e = .returned (.bool true) ∧ Below w.heap.size w w') := by
  have hl := h.len
  have B1 : Hid (Below w.heap.size w ((w.alloc (.cells (rowY da) 23)).alloc (.cells (rowY db) 23))) := aside (((Below.refl _ _).alloc (Nat.le_refl _) _).alloc (by simp) _)
  have D0 : Hid (BlkY ((w.alloc (.cells (rowY da) 23)).alloc (.cells (rowY db) 23)) w.heap.size 23 da) := aside ((BlkY.new w _ _).alloc _)
  have D1 : Hid (BlkY ((w.alloc (.cells (rowY da) 23)).alloc (.cells (rowY db) 23)) (w.heap.size + 1) 23 db) := aside (by
    have h := BlkY.new (w.alloc (.cells (rowY da) 23)) 23 db
    rwa [show (w.alloc (.cells (rowY da) 23)).heap.size = w.heap.size + 1 by simp] at h)
  have HL := aside hl
  have HDa := aside hda
  have HDb := aside hdb
  have HBa := aside hba
  have HBb := aside hbb
  have HG := aside hg
  have H := aside h
  have HS7 := aside (zinfo da hda)
  have HS8 := aside (zinfo db hdb)
  clear hl hda hba hdb hbb hg h
  unfold digV
  go_enter Tryd.func3, Tryd.ntmps3
  go_upto_region 1 with fail
  change Code.wp _ _ _ _ ((w.alloc (.cells (rowY da) 23)).alloc (.cells (rowY db) 23))
  generalize ((w.alloc (.cells (rowY da) 23)).alloc (.cells (rowY db) 23)) = w1 at B1 D0 D1 ⊢
  obtain ⟨B0, hB0⟩ : ∃ B0, B0 = w.heap.size := ⟨_, rfl⟩
  have EB := aside hB0
  simp only [← hB0] at D0 D1 ⊢
  clear hB0
  have l0 := D0.out.lt
  have l1 := D1.out.lt
  go_wp2_with fail
  refine (mine_any w1 (HG.out.below B1.out)).mono ?_
  rintro e w2 ⟨rfl, hb2⟩
  have HB2 := aside hb2
  have HBw2 : Hid (Below w.heap.size w w2) := aside (B1.out.trans (hb2.mono B1.out.size))
  clear hb2
  have HC := aside (check_any cs A n c w2 (((H.out.below HBw2.out).more HBw2.out.size)))
  generalize setQ cs = q at HC
  go_wp2_with fail
  refine HC.out.mono ?_
  rintro e w3 ⟨rfl, hb3⟩
  have HB3 : Hid (Below w1.heap.size w1 w3) := aside (HB2.out.trans (hb3.mono HB2.out.size))
  clear hb3 HC HB2 HBw2
  have HBw3 : Hid (Below w.heap.size w w3) := aside (B1.out.trans (HB3.out.mono B1.out.size))
  by_cases hq : ¬ q = 0
  · rw [errP_no hq]
    go_wp2
    go_ret
    exact ⟨rfl, HBw3.out⟩
  obtain rfl := Classical.not_not.1 hq
  clear hq
  rw [show errP 0 = Value.nilIface from rfl]
  by_cases hn : 20 < n
  · have hn1 : (20 : Int) < (n : Int) := by omega
    go_wp2
    go_ret
    exact ⟨rfl, HBw3.out⟩
  have hn1 : (n : Int) ≤ 20 := by omega
  have hn2 : n ≤ 20 := by omega
  obtain ⟨V, hV⟩ : ∃ V : Bool, V = decide (lockL da 0 = lockL db 0) := ⟨_, rfl⟩
  have HV : Hid (V = true ↔ lockL da 0 = lockL db 0) := aside (by rw [hV]; exact decide_eq_true_iff)
  have D03 : Hid (BlkY w3 B0 23 da) := aside (D0.out.below HB3.out l0)
  have D13 : Hid (BlkY w3 (B0 + 1) 23 db) := aside (D1.out.below HB3.out l1)
  have l03 := D03.out.lt
  have l13 := D13.out.lt
  have HG3 := aside (HG.out.below HBw3.out)
  clear hn hV
  go_upto_region 6 with fail
  refine wp_region_held_drew (S := (fun w' => Below w3.heap.size w3 w')) (by kernel_rfl) (below_drawn (Below.refl _ _) 1) (fun hS => ?_)
  refine wpAnyH_take (i := 0) (v := _) rfl (by kernel_rfl) (by kernel_rfl) (by kernel_rfl) (fun _ _ _ h => h) (yieldsIf_load_mid (by rfl) _ _ rfl B0 0 rfl (u8s da) _ (fun W hW => (D03.out.below hW l03).range) Tryd.underlying23 rfl (by rw [u8s_len, HDa.out]; exact digInfo)) hS ?_
  (repeat (first | simp only [List.getElem_toArray] | simp only [List.getElem_cons_succ] | simp only [List.getElem_cons_zero] | simp only [Act.put] | simp only [List.setIfInBounds_toArray] | simp only [List.set_cons_succ] | simp only [List.set_cons_zero]))
  refine wpAnyH_take (i := 2) (v := _) rfl (by kernel_rfl) (by kernel_rfl) (by kernel_rfl) (fun _ _ _ h => h) (yieldsIf_load_mid (by rfl) _ _ rfl (B0 + 1) 0 rfl (u8s db) _ (fun W hW => (D13.out.below hW l13).range) Tryd.underlying23 rfl (by rw [u8s_len, HDb.out]; exact digInfo)) hS ?_
  (repeat (first | simp only [List.getElem_toArray] | simp only [List.getElem_cons_succ] | simp only [List.getElem_cons_zero] | simp only [Act.put] | simp only [List.setIfInBounds_toArray] | simp only [List.set_cons_succ] | simp only [List.set_cons_zero]))
  refine wpAnyH_all (rs := [1]) (by kernel_rfl) (by simp) ?_
  intro m hm
  obtain rfl := List.mem_singleton.1 hm
  refine wpOp_of_list rfl ?_
  (repeat (first | simp only [List.getElem_toArray] | simp only [List.getElem_cons_succ] | simp only [List.getElem_cons_zero]))
  go_wp2_with (first
    | (go_at_call 8; refine (show Calls _ _ #[digV da, .int .i64 ((0 : Nat) : Int)] _ _ from lock_any da HDa.out HBa.out 0 (by omega) w3.drew (HG3.out.below (below_drawn (Below.refl _ _) 1))).mono ?_; rintro e w4 ⟨A8, rs8, rfl, hdep, hpl, hb9⟩; have HP8 := aside hdep; have HE8 := aside hpl; have HK8 := aside hb9; have hS8 : Below w3.heap.size w3 w4 := hS.trans (hb9.mono hS.size); have HS8q := aside hS8; clear hdep hpl hb9 hS8)
    | fail)
  change _ ∧ _
  refine ⟨HS8q.out, ?_⟩
  (try dsimp only)
  (repeat (first | simp only [List.getElem_toArray] | simp only [List.getElem_cons_succ] | simp only [List.getElem_cons_zero] | simp only [Act.put] | simp only [List.setIfInBounds_toArray] | simp only [List.set_cons_succ] | simp only [List.set_cons_zero]))
  refine wpAnyH_all (rs := [3]) (by kernel_rfl) (by simp) ?_
  intro m9 hm9
  obtain rfl := List.mem_singleton.1 hm9
  refine wpOp_of_list rfl ?_
  (repeat (first | simp only [List.getElem_toArray] | simp only [List.getElem_cons_succ] | simp only [List.getElem_cons_zero]))
  go_wp2_with (first
    | (go_at_call 8; refine (show Calls _ _ #[digV db, .int .i64 ((0 : Nat) : Int)] _ _ from lock_any db HDb.out HBb.out 0 (by omega) w4 (HG3.out.below HS8q.out)).mono ?_; rintro e w5 ⟨A9, rs9, rfl, hdep, hpl, hb9⟩; have HP9 := aside hdep; have HE9 := aside hpl; have HK9 := aside hb9; have hS9 : Below w3.heap.size w3 w5 := HS8q.out.trans (hb9.mono HS8q.out.size); have HS9q := aside hS9; clear hdep hpl hb9 hS9)
    | fail)
  change _ ∧ _
  refine ⟨HS9q.out, ?_⟩
  (try dsimp only)
  (repeat (first | simp only [List.getElem_toArray] | simp only [List.getElem_cons_succ] | simp only [List.getElem_cons_zero] | simp only [Act.put] | simp only [List.setIfInBounds_toArray] | simp only [List.set_cons_succ] | simp only [List.set_cons_zero]))
  refine wpAnyH_all (rs := [4]) (by kernel_rfl) (by simp) ?_
  intro m9 hm9
  obtain rfl := List.mem_singleton.1 hm9
  refine wpOp_of_list rfl ?_
  (repeat (first | simp only [List.getElem_toArray] | simp only [List.getElem_cons_succ] | simp only [List.getElem_cons_zero]))
  have HR8 := aside (HP8.out w5 (fun b _ hb => HK9.out.block b hb) HK9.out.size)
  have HR9 := aside (HP9.out w5 (fun b _ hb => rfl) (Nat.le_refl _))
  have HSL := aside (slock_any rs8 rs9 V (by rw [HE8.out, HE9.out]; exact HV.out) A8 A9 2 2 2 2 (by omega) w5 HR8.out HR9.out (lock_short HR8.out HE8.out))
  go_wp2_with (first
    | (go_at_call 7; refine HSL.out.mono ?_; rintro e w6 ⟨rfl, hb9⟩; have hS7 : Below w3.heap.size w3 w6 := HS9q.out.trans (hb9.mono HS9q.out.size); have HS7q := aside hS7; clear hb9 hS7)
    | fail)
  change _ ∧ _
  refine ⟨HS7q.out, ?_⟩
  (try dsimp only)
  (repeat (first | simp only [List.getElem_toArray] | simp only [List.getElem_cons_succ] | simp only [List.getElem_cons_zero] | simp only [Act.put] | simp only [List.setIfInBounds_toArray] | simp only [List.set_cons_succ] | simp only [List.set_cons_zero]))
  refine wpAnyH_take (i := 5) (v := ?_) rfl (by kernel_rfl) (by kernel_rfl) (by kernel_rfl) (fun _ _ _ h => h) (Or.inl ⟨by rfl, ?_⟩) HS7q.out ?_
  rotate_left
  · (intro W hSw; (try dsimp only at hSw); go_simp; try with_reducible rfl)
  (repeat (first | simp only [List.getElem_toArray] | simp only [List.getElem_cons_succ] | simp only [List.getElem_cons_zero] | simp only [Act.put] | simp only [List.setIfInBounds_toArray] | simp only [List.set_cons_succ] | simp only [List.set_cons_zero]))
  refine wpAnyH_done (by kernel_rfl) ?_ _
  clear HR8 HR9 HSL HP8 HP9 HE8 HE9 HK8 HK9 HS8q HS9q
  have HB5 : Hid (Below w3.heap.size w3 w6) := HS7q
  generalize w6 = w5 at HB5 ⊢
  have D05 : Hid (BlkY w5 B0 23 da) := aside (D03.out.below HB5.out l03)
  have HBw5 : Hid (Below w.heap.size w w5) := aside (HBw3.out.trans (HB5.out.mono HBw3.out.size))
  go_wp2_with (first
    | (refine wpList_load_row rfl 23 (.tmp 3) rfl B0 rfl 23 (rowY da) (0, 0) _ D05.out Tryd.underlying23 rfl HS7.out ?_)
    | fail)
  refine (show Calls _ _ #[digV da, _] _ _ from owned_any da HDa.out HBa.out cs A n c hn2 w5 ((H.out.below HBw5.out).more HBw5.out.size) (HG.out.below HBw5.out)).mono ?_
  rintro e w6 ⟨rfl, hb6⟩
  have HB6 : Hid (Below w3.heap.size w3 w6) := aside (HB5.out.trans (hb6.mono HB5.out.size))
  have D16 : Hid (BlkY w6 (B0 + 1) 23 db) := aside (D13.out.below HB6.out l13)
  have HBw6 : Hid (Below w.heap.size w w6) := aside (HBw3.out.trans (HB6.out.mono HBw3.out.size))
  clear hb6 HB5 D05 HBw5
  go_wp2_with (first
    | (refine wpList_load_row rfl 23 (.tmp 4) rfl (B0 + 1) rfl 23 (rowY db) (0, 0) _ D16.out Tryd.underlying23 rfl HS8.out ?_)
    | fail)
  refine (show Calls _ _ #[digV db, _] _ _ from owned_any db HDb.out HBb.out cs A n c hn2 w6 ((H.out.below HBw6.out).more HBw6.out.size) (HG.out.below HBw6.out)).mono ?_
  rintro e w7 ⟨rfl, hb7⟩
  have HBw7 : Hid (Below w.heap.size w w7) := aside (HBw6.out.trans (hb7.mono HBw6.out.size))
  clear hb7 HB6 D16 HBw6
  have x1 := cntF_len (lockL da 0) cs
  have x2 := cntF_len (lockL db 0) cs
  rw [HL.out] at x1 x2
  cases V with
  | true =>
    have e9 := HV.out.1 rfl
    rw [e9]
    generalize cntF (lockL db 0) cs = y at *
    clear e9
    go_wp2
    go_ret
    exact ⟨by simp, HBw7.out⟩
  | false =>
    have x3 := cntF_two (fun e9 => by simpa using HV.out.2 e9) cs
    rw [HL.out] at x3
    generalize cntF (lockL da 0) cs = x at *
    generalize cntF (lockL db 0) cs = y at *
    have x4 : ((x : Int) + (y : Int) ≤ (n : Int)) = True := by simp; omega
    have x5 : IntKind.i64.wrap ((x : Int) + (y : Int)) = (x : Int) + (y : Int) := by rw [IntKind.wrap_i64]; omega
    go_wp2
    go_ret
    exact ⟨by simp, HBw7.out⟩
end Go.Proofs.YtiigggbghgfdoaaDoor
