/- The walk of WalletTells. Conditions: named in each theorem. -/
import Derived.Test.YtmhekoalhlfjoaaGreatDoorRefU
import Derived.Test.YtmhekoalhlfjoaaGreatDoorRefP
import Derived.Test.YtmhekoalhlfjoaaGreatDoorRefN
import Derived.Test.YtmhekoalhlfjoaaGreatDoorErr
import Derived.Test.YtmhekoalhlfjoaaGreatDoorDigE
namespace Go.Proofs.YtmhekoalhlfjoaaGreatDoor
open Go.RowKit Go.ChangeShapes Go.WideShapes Go.ChangeAt

theorem lock_shortG {w : World} {N : Nat} {A : Option Addr} {n : Nat} {rs : List ROp} {d : List Nat} {i : Int} (h : RSl w N A n rs) (hp : rs.map ROp.pl = lockG d i) : ∀ r ∈ rs, r.dn ≤ 1000 := fun r hr => by
  have h1 := YSl.len1 (h.data r hr)
  have h2 : r.pl ∈ lockG d i := hp ▸ List.mem_map_of_mem hr
  unfold lockG ROp.pl at h2
  simp only [List.mem_cons, List.not_mem_nil, or_false, Prod.mk.injEq] at h2
  rcases h2 with ⟨-, -, h2⟩ | ⟨-, -, h2⟩
  · rw [← h1, h2, pubL_len]; omega
  · rw [← h1, h2]; simp
theorem locks_short {w : World} {ls : List Lk} {d : List Nat} {N : Nat} (h : ∀ l ∈ ls, RSl w w.heap.size l.1 2 l.2) (hp : ls.map lkP = (List.range N).map (lockL d)) : ∀ l ∈ ls, ∀ r ∈ l.2, r.dn ≤ 1000 := fun l hl r hr => by
  have h1 := YSl.len1 ((h l hl).data r hr)
  have h2 : lkP l ∈ (List.range N).map (lockL d) := hp ▸ List.mem_map_of_mem hl
  obtain ⟨i, -, h3⟩ := List.mem_map.1 h2
  have h4 : r.pl ∈ lockL d i := by
    rw [h3]
    exact List.mem_map_of_mem hr
  unfold lockL ROp.pl at h4
  simp only [List.mem_cons, List.not_mem_nil, or_false, Prod.mk.injEq] at h4
  rcases h4 with ⟨-, -, h4⟩ | ⟨-, -, h4⟩
  · rw [← h1, h4, pubL_len]; omega
  · rw [← h1, h4]; simp
theorem row_range {w : World} {b : Nat} {T : TypeId} {l : List Value} (h : w.heap[b]? = some (.cells l.toArray T (0, 0))) : w.rangeAt b 0 l := fun j v hj => by
  rw [Nat.zero_add, cell_of_row w b j _ _ _ h, List.getElem?_toArray]
  exact hj
theorem bal_bad {d : List Nat} {n : Int} {cs : List RCoin} {q : Int} (h : q = chQ n cs) (hq : ¬ q = 0) : balQ d n cs = (0, q) := by
  show (if chQ n cs ≠ 0 then ((0 : Int), chQ n cs) else _) = _
  rw [← h, if_pos hq]
theorem bal_good {d : List Nat} {n : Int} {cs : List RCoin} (h : (0 : Int) = chQ n cs) : balQ d n cs = addN ((cs.filter (keepC ((List.range n.toNat).map (lockL d)))).map (·.amt)) 0 ∧ 1 ≤ n ∧ n ≤ 100 ∧ cs.length ≤ 1000 := by
  have h2 : 1 ≤ n ∧ n ≤ 100 ∧ setQ cs = 0 := by
    unfold chQ at h
    split at h
    · omega
    · exact ⟨by omega, by omega, h.symm⟩
  refine ⟨?_, h2.1, h2.2.1, ?_⟩
  · show (if chQ n cs ≠ 0 then ((0 : Int), chQ n cs) else csumQ (cs.filter _)) = _
    rw [← h, if_neg (by simp)]
    unfold csumQ
    rw [set_filter _ h2.2.2, if_neg (by simp)]
  · have h3 := h2.2.2
    unfold setQ at h3
    split at h3
    · omega
    · omega
set_option maxHeartbeats 40000000 in
set_option maxRecDepth 100000 in
theorem wtells_any (d : List Nat) (hd : d.length = 32) (hb : ∀ x ∈ d, x < 256) (i n : Int) (hi : i < 9223372036854775808) (cs : List RCoin) (A : Option Addr) (m c : Nat) (os : List ROp) (a : Int) (oA : Option Addr) (on oc : Nat) (w : World) (h : CSl w w.heap.size A m cs) (hbt : ∀ r ∈ cs, ∀ x ∈ r.tx, x < 256) (ho : RSl w w.heap.size oA on os) (hg : RoundsAt w) (hev : ErrVar w) :
    Calls Tryz.prog 3 #[digV d, .int .i64 i, .int .i64 n, .slice A m c, .agg #[.int .i64 a, .slice oA on oc]] w (fun e w' => e = .returned (.bool true) ∧ Below w.heap.size w w') := by
  have B1 : Hid (Below w.heap.size w ((w.alloc (.cells (rowY d) 23)).alloc (.cells #[.int .i64 a, .slice oA on oc] 27))) := aside (((Below.refl _ _).alloc (Nat.le_refl _) _).alloc (by simp) _)
  have D0 : Hid (BlkY ((w.alloc (.cells (rowY d) 23)).alloc (.cells #[.int .i64 a, .slice oA on oc] 27)) w.heap.size 23 d) := aside ((BlkY.new w _ _).alloc _)
  have D1 : Hid (((w.alloc (.cells (rowY d) 23)).alloc (.cells #[.int .i64 a, .slice oA on oc] 27)).heap[w.heap.size + 1]? = some (.cells #[.int .i64 a, .slice oA on oc] 27 (0, 0))) := aside (by
    have h := heap_alloc_new (w.alloc (.cells (rowY d) 23)) (.cells #[.int .i64 a, .slice oA on oc] 27)
    rwa [show (w.alloc (.cells (rowY d) 23)).heap.size = w.heap.size + 1 by simp] at h)
  have hl := h.len
  have HL := aside hl
  have HO := aside ho
  have H := aside h
  have HBt := aside hbt
  have HDl := aside hd
  have HDb := aside hb
  have HG := aside hg
  have HEv := aside hev
  have HS7 := aside (zinfo d hd)
  clear hl ho hd hb hg hev h hbt
  unfold digV
  go_enter Tryz.func3, Tryz.ntmps3
  go_upto_region 1 with fail
  change Code.wp _ _ _ _ ((w.alloc (.cells (rowY d) 23)).alloc (.cells #[.int .i64 a, .slice oA on oc] 27))
  generalize ((w.alloc (.cells (rowY d) 23)).alloc (.cells #[.int .i64 a, .slice oA on oc] 27)) = w1 at B1 D0 D1 ⊢
  obtain ⟨B0, hB0⟩ : ∃ B0, B0 = w.heap.size := ⟨_, rfl⟩
  simp only [← hB0] at D0 D1 ⊢
  clear hB0
  have l0 := D0.out.lt
  have l1 : B0 + 1 < w1.heap.size := (Array.getElem?_eq_some_iff.1 D1.out).1
  go_wp2_with fail
  refine (mine_any w1 (HG.out.below B1.out)).mono ?_
  rintro e w2 ⟨rfl, hb2⟩
  have HB2 := aside hb2
  have HBw2 : Hid (Below w.heap.size w w2) := aside (B1.out.trans (hb2.mono B1.out.size))
  clear hb2
  by_cases h4 : 4 < n
  · by_cases h5 : n ≤ 100
    · go_wp2
      go_ret
      exact ⟨rfl, HBw2.out⟩
    have h5' : (n ≤ 100) = False := by simp [h5]
    have h6 : 100 < n := by omega
    have D02 : Hid (BlkY w2 B0 23 d) := aside (D0.out.below HB2.out l0)
    have l02 := D02.out.lt
    have HG2 := aside (HG.out.below HBw2.out)
    go_upto_region 4 with fail
    refine wp_region_held_drew (S := (fun w' => Below w2.heap.size w2 w')) (by kernel_rfl) (below_drawn (Below.refl _ _) 1) (fun hS => ?_)
    refine wpAnyH_take (i := 0) (v := _) rfl (by kernel_rfl) (by kernel_rfl) (by kernel_rfl) (fun _ _ _ h => h) (yieldsIf_load_mid (by rfl) _ _ rfl B0 0 rfl (u8s d) _ (fun W hW => (D02.out.below hW l02).range) Tryz.underlying23 rfl (by rw [u8s_len, HDl.out]; exact digInfo)) hS ?_
    (repeat (first | simp only [List.getElem_toArray] | simp only [List.getElem_cons_succ] | simp only [List.getElem_cons_zero] | simp only [Act.put] | simp only [List.setIfInBounds_toArray] | simp only [List.set_cons_succ] | simp only [List.set_cons_zero]))
    refine wpAnyH_take (i := 1) (v := ?_) rfl (by kernel_rfl) (by kernel_rfl) (by kernel_rfl) (fun _ _ _ h => h) (Or.inl ⟨by rfl, ?_⟩) hS ?_
    rotate_left
    · (intro W hSw; (try dsimp only at hSw); go_simp; try with_reducible rfl)
    (repeat (first | simp only [List.getElem_toArray] | simp only [List.getElem_cons_succ] | simp only [List.getElem_cons_zero] | simp only [Act.put] | simp only [List.setIfInBounds_toArray] | simp only [List.set_cons_succ] | simp only [List.set_cons_zero]))
    refine wpAnyH_take (i := 3) (v := _) rfl (by kernel_rfl) (by kernel_rfl) (by kernel_rfl) (fun _ _ _ h => h) (yieldsIf_load_mid (by rfl) _ _ rfl B0 0 rfl (u8s d) _ (fun W hW => (D02.out.below hW l02).range) Tryz.underlying23 rfl (by rw [u8s_len, HDl.out]; exact digInfo)) hS ?_
    (repeat (first | simp only [List.getElem_toArray] | simp only [List.getElem_cons_succ] | simp only [List.getElem_cons_zero] | simp only [Act.put] | simp only [List.setIfInBounds_toArray] | simp only [List.set_cons_succ] | simp only [List.set_cons_zero]))
    refine wpAnyH_take (i := 4) (v := ?_) rfl (by kernel_rfl) (by kernel_rfl) (by kernel_rfl) (fun _ _ _ h => h) (Or.inl ⟨by rfl, ?_⟩) hS ?_
    rotate_left
    · (intro W hSw; (try dsimp only at hSw); go_simp; try with_reducible rfl)
    (repeat (first | simp only [List.getElem_toArray] | simp only [List.getElem_cons_succ] | simp only [List.getElem_cons_zero] | simp only [Act.put] | simp only [List.setIfInBounds_toArray] | simp only [List.set_cons_succ] | simp only [List.set_cons_zero]))
    refine wpAnyH_all (rs := [2]) (by kernel_rfl) (by simp) ?_
    intro m9 hm9
    obtain rfl := List.mem_singleton.1 hm9
    refine wpOp_of_list rfl ?_
    (repeat (first | simp only [List.getElem_toArray] | simp only [List.getElem_cons_succ] | simp only [List.getElem_cons_zero]))
    go_wp2_with (first
      | (go_at_call 6; refine (show Calls _ _ #[digV d, _] _ _ from lockG_any d HDl.out HDb.out i hi w2.drew (HG2.out.below (below_drawn (Below.refl _ _) 1))).mono ?_; rintro e w3 ⟨A3, rs3, rfl, hdep, hpl, hb9⟩; have HP3 := aside hdep; have HE3 := aside hpl; have hS3 : Below w2.heap.size w2 w3 := hS.trans hb9; have HS3q := aside hS3; clear hdep hpl hb9 hS3)
      | fail)
    change _ ∧ _
    refine ⟨HS3q.out, ?_⟩
    (try dsimp only)
    (repeat (first | simp only [List.getElem_toArray] | simp only [List.getElem_cons_succ] | simp only [List.getElem_cons_zero] | simp only [Act.put] | simp only [List.setIfInBounds_toArray] | simp only [List.set_cons_succ] | simp only [List.set_cons_zero]))
    refine wpAnyH_all (rs := [5]) (by kernel_rfl) (by simp) ?_
    intro m9 hm9
    obtain rfl := List.mem_singleton.1 hm9
    refine wpOp_of_list rfl ?_
    (repeat (first | simp only [List.getElem_toArray] | simp only [List.getElem_cons_succ] | simp only [List.getElem_cons_zero]))
    go_wp2_with (first
      | (go_at_call 7; refine (show Calls _ _ #[digV d, _] _ _ from qlock_any d HDl.out HDb.out i hi w3 (HG2.out.below HS3q.out)).mono ?_; rintro e w4 ⟨A4, rs4, rfl, hdep, hpl, hb9⟩; have HP4 := aside hdep; have HE4 := aside hpl; have HK4 := aside hb9; have hS4 : Below w2.heap.size w2 w4 := HS3q.out.trans (hb9.mono HS3q.out.size); have HS4q := aside hS4; clear hdep hpl hb9 hS4)
      | fail)
    change _ ∧ _
    refine ⟨HS4q.out, ?_⟩
    (try dsimp only)
    (repeat (first | simp only [List.getElem_toArray] | simp only [List.getElem_cons_succ] | simp only [List.getElem_cons_zero] | simp only [Act.put] | simp only [List.setIfInBounds_toArray] | simp only [List.set_cons_succ] | simp only [List.set_cons_zero]))
    refine wpAnyH_all (rs := [6]) (by kernel_rfl) (by simp) ?_
    intro m9 hm9
    obtain rfl := List.mem_singleton.1 hm9
    refine wpOp_of_list rfl ?_
    (repeat (first | simp only [List.getElem_toArray] | simp only [List.getElem_cons_succ] | simp only [List.getElem_cons_zero]))
    have HR3 := aside (HP3.out w4 (fun b _ hb => HK4.out.block b hb) HK4.out.size)
    have HR4 := aside (HP4.out w4 (fun b _ hb => rfl) (Nat.le_refl _))
    have HSL := aside (slock_any rs3 rs4 true (by rw [HE3.out, HE4.out]; simp) A3 A4 2 2 2 2 (by omega) w4 HR3.out HR4.out (lock_shortG HR3.out HE3.out))
    go_wp2_with (first
      | (go_at_call 5; refine HSL.out.mono ?_; rintro e w5 ⟨rfl, hb9⟩; have hS5 : Below w2.heap.size w2 w5 := HS4q.out.trans (hb9.mono HS4q.out.size); have HS5q := aside hS5; clear hb9 hS5)
      | fail)
    change _ ∧ _
    refine ⟨HS5q.out, ?_⟩
    (try dsimp only)
    (repeat (first | simp only [List.getElem_toArray] | simp only [List.getElem_cons_succ] | simp only [List.getElem_cons_zero] | simp only [Act.put] | simp only [List.setIfInBounds_toArray] | simp only [List.set_cons_succ] | simp only [List.set_cons_zero]))
    refine wpAnyH_take (i := 7) (v := ?_) rfl (by kernel_rfl) (by kernel_rfl) (by kernel_rfl) (fun _ _ _ h => h) (Or.inl ⟨by rfl, ?_⟩) HS5q.out ?_
    rotate_left
    · (intro W hSw; (try dsimp only at hSw); go_simp; try with_reducible rfl)
    (repeat (first | simp only [List.getElem_toArray] | simp only [List.getElem_cons_succ] | simp only [List.getElem_cons_zero] | simp only [Act.put] | simp only [List.setIfInBounds_toArray] | simp only [List.set_cons_succ] | simp only [List.set_cons_zero]))
    refine wpAnyH_done (by kernel_rfl) ?_ _
    clear HR3 HR4 HSL HP3 HP4 HE3 HE4 HK4 HS3q HS4q
    have HB5 : Hid (Below w1.heap.size w1 w5) := aside (HB2.out.trans (HS5q.out.mono HB2.out.size))
    have HBw5 : Hid (Below w.heap.size w w5) := aside (B1.out.trans (HB5.out.mono B1.out.size))
    have D05 : Hid (BlkY w5 B0 23 d) := aside (D0.out.below HB5.out l0)
    have l05 := D05.out.lt
    have HG5 := aside (HG.out.below HBw5.out)
    clear HS5q D02 l02 HG2 HB2 HBw2
    go_upto_region 5 with fail
    refine wp_region_held_drew (S := (fun w' => Below w5.heap.size w5 w')) (by kernel_rfl) (below_drawn (Below.refl _ _) 1) (fun hS => ?_)
    refine wpAnyH_take (i := 0) (v := ?_) rfl (by kernel_rfl) (by kernel_rfl) (by kernel_rfl) (fun _ _ _ h => h) (Or.inl ⟨by rfl, ?_⟩) hS ?_
    rotate_left
    · (intro W hSw; (try dsimp only at hSw); go_simp; try with_reducible rfl)
    (repeat (first | simp only [List.getElem_toArray] | simp only [List.getElem_cons_succ] | simp only [List.getElem_cons_zero] | simp only [Act.put] | simp only [List.setIfInBounds_toArray] | simp only [List.set_cons_succ] | simp only [List.set_cons_zero]))
    refine wpAnyH_take (i := 1) (v := ?_) rfl (by kernel_rfl) (by kernel_rfl) (by kernel_rfl) (fun _ _ _ h => h) (Or.inl ⟨by rfl, ?_⟩) hS ?_
    rotate_left
    · (intro W hSw; (try dsimp only at hSw); go_simp; try with_reducible rfl)
    (repeat (first | simp only [List.getElem_toArray] | simp only [List.getElem_cons_succ] | simp only [List.getElem_cons_zero] | simp only [Act.put] | simp only [List.setIfInBounds_toArray] | simp only [List.set_cons_succ] | simp only [List.set_cons_zero]))
    refine wpAnyH_take (i := 2) (v := ?_) rfl (by kernel_rfl) (by kernel_rfl) (by kernel_rfl) (fun _ _ _ h => h) (Or.inl ⟨by rfl, ?_⟩) hS ?_
    rotate_left
    · (intro W hSw; (try dsimp only at hSw); go_simp; try with_reducible rfl)
    (repeat (first | simp only [List.getElem_toArray] | simp only [List.getElem_cons_succ] | simp only [List.getElem_cons_zero] | simp only [Act.put] | simp only [List.setIfInBounds_toArray] | simp only [List.set_cons_succ] | simp only [List.set_cons_zero]))
    refine wpAnyH_take (i := 3) (v := ?_) rfl (by kernel_rfl) (by kernel_rfl) (by kernel_rfl) (fun _ _ _ h => h) (Or.inl ⟨by rfl, ?_⟩) hS ?_
    rotate_left
    · (intro W hSw; (try dsimp only at hSw); go_simp; try with_reducible rfl)
    (repeat (first | simp only [List.getElem_toArray] | simp only [List.getElem_cons_succ] | simp only [List.getElem_cons_zero] | simp only [Act.put] | simp only [List.setIfInBounds_toArray] | simp only [List.set_cons_succ] | simp only [List.set_cons_zero]))
    refine wpAnyH_take (i := 4) (v := ?_) rfl (by kernel_rfl) (by kernel_rfl) (by kernel_rfl) (fun _ _ _ h => h) (Or.inl ⟨by rfl, ?_⟩) hS ?_
    rotate_left
    · (intro W hSw; (try dsimp only at hSw); go_simp; try with_reducible rfl)
    (repeat (first | simp only [List.getElem_toArray] | simp only [List.getElem_cons_succ] | simp only [List.getElem_cons_zero] | simp only [Act.put] | simp only [List.setIfInBounds_toArray] | simp only [List.set_cons_succ] | simp only [List.set_cons_zero]))
    refine wpAnyH_take (i := 5) (v := ?_) rfl (by kernel_rfl) (by kernel_rfl) (by kernel_rfl) (fun _ _ _ h => h) (Or.inl ⟨by rfl, ?_⟩) hS ?_
    rotate_left
    · (intro W hSw; (try dsimp only at hSw); go_simp; try with_reducible rfl)
    (repeat (first | simp only [List.getElem_toArray] | simp only [List.getElem_cons_succ] | simp only [List.getElem_cons_zero] | simp only [Act.put] | simp only [List.setIfInBounds_toArray] | simp only [List.set_cons_succ] | simp only [List.set_cons_zero]))
    refine wpAnyH_take (i := 6) (v := ?_) rfl (by kernel_rfl) (by kernel_rfl) (by kernel_rfl) (fun _ _ _ h => h) (Or.inl ⟨by rfl, ?_⟩) hS ?_
    rotate_left
    · (intro W hSw; (try dsimp only at hSw); go_simp; try with_reducible rfl)
    (repeat (first | simp only [List.getElem_toArray] | simp only [List.getElem_cons_succ] | simp only [List.getElem_cons_zero] | simp only [Act.put] | simp only [List.setIfInBounds_toArray] | simp only [List.set_cons_succ] | simp only [List.set_cons_zero]))
    refine wpAnyH_take (i := 7) (v := _) rfl (by kernel_rfl) (by kernel_rfl) (by kernel_rfl) (fun _ _ _ h => h) (yieldsIf_load_mid (by rfl) _ _ rfl B0 0 rfl (u8s d) _ (fun W hW => (D05.out.below hW l05).range) Tryz.underlying23 rfl (by rw [u8s_len, HDl.out]; exact digInfo)) hS ?_
    (repeat (first | simp only [List.getElem_toArray] | simp only [List.getElem_cons_succ] | simp only [List.getElem_cons_zero] | simp only [Act.put] | simp only [List.setIfInBounds_toArray] | simp only [List.set_cons_succ] | simp only [List.set_cons_zero]))
    refine wpAnyH_take (i := 8) (v := ?_) rfl (by kernel_rfl) (by kernel_rfl) (by kernel_rfl) (fun _ _ _ h => h) (Or.inl ⟨by rfl, ?_⟩) hS ?_
    rotate_left
    · (intro W hSw; (try dsimp only at hSw); go_simp; try with_reducible rfl)
    (repeat (first | simp only [List.getElem_toArray] | simp only [List.getElem_cons_succ] | simp only [List.getElem_cons_zero] | simp only [Act.put] | simp only [List.setIfInBounds_toArray] | simp only [List.set_cons_succ] | simp only [List.set_cons_zero]))
    refine wpAnyH_take (i := 10) (v := _) rfl (by kernel_rfl) (by kernel_rfl) (by kernel_rfl) (fun _ _ _ h => h) (yieldsIf_load_mid (by rfl) _ _ rfl B0 0 rfl (u8s d) _ (fun W hW => (D05.out.below hW l05).range) Tryz.underlying23 rfl (by rw [u8s_len, HDl.out]; exact digInfo)) hS ?_
    (repeat (first | simp only [List.getElem_toArray] | simp only [List.getElem_cons_succ] | simp only [List.getElem_cons_zero] | simp only [Act.put] | simp only [List.setIfInBounds_toArray] | simp only [List.set_cons_succ] | simp only [List.set_cons_zero]))
    refine wpAnyH_take (i := 11) (v := ?_) rfl (by kernel_rfl) (by kernel_rfl) (by kernel_rfl) (fun _ _ _ h => h) (Or.inl ⟨by rfl, ?_⟩) hS ?_
    rotate_left
    · (intro W hSw; (try dsimp only at hSw); go_simp; try with_reducible rfl)
    (repeat (first | simp only [List.getElem_toArray] | simp only [List.getElem_cons_succ] | simp only [List.getElem_cons_zero] | simp only [Act.put] | simp only [List.setIfInBounds_toArray] | simp only [List.set_cons_succ] | simp only [List.set_cons_zero]))
    refine wpAnyH_all (rs := [9]) (by kernel_rfl) (by simp) ?_
    intro m9 hm9
    obtain rfl := List.mem_singleton.1 hm9
    refine wpOp_of_list rfl ?_
    (repeat (first | simp only [List.getElem_toArray] | simp only [List.getElem_cons_succ] | simp only [List.getElem_cons_zero]))
    go_wp2_with (first
      | (go_at_call 8; refine (show Calls _ _ #[digV d, _] _ _ from seedG_any d HDl.out HDb.out i hi w5.drew (HG5.out.below (below_drawn (Below.refl _ _) 1))).mono ?_; rintro e w6 ⟨rfl, hb9⟩; have hS6 : Below w5.heap.size w5 w6 := hS.trans hb9; have HS6q := aside hS6; clear hb9 hS6)
      | fail)
    change _ ∧ _
    refine ⟨HS6q.out, ?_⟩
    (try dsimp only)
    (repeat (first | simp only [List.getElem_toArray] | simp only [List.getElem_cons_succ] | simp only [List.getElem_cons_zero] | simp only [Act.put] | simp only [List.setIfInBounds_toArray] | simp only [List.set_cons_succ] | simp only [List.set_cons_zero]))
    refine wpAnyH_all (rs := [12]) (by kernel_rfl) (by simp) ?_
    intro m9 hm9
    obtain rfl := List.mem_singleton.1 hm9
    refine wpOp_of_list rfl ?_
    (repeat (first | simp only [List.getElem_toArray] | simp only [List.getElem_cons_succ] | simp only [List.getElem_cons_zero]))
    go_wp2_with (first
      | (go_at_call 9; refine (show Calls _ _ #[digV d, _] _ _ from qseed_any d HDl.out HDb.out i hi w6 (HG5.out.below HS6q.out)).mono ?_; rintro e w7 ⟨rfl, hb9⟩; have hS7 : Below w5.heap.size w5 w7 := HS6q.out.trans (hb9.mono HS6q.out.size); have HS7q := aside hS7; clear hb9 hS7)
      | fail)
    change _ ∧ _
    refine ⟨HS7q.out, ?_⟩
    (try dsimp only)
    (repeat (first | simp only [List.getElem_toArray] | simp only [List.getElem_cons_succ] | simp only [List.getElem_cons_zero] | simp only [Act.put] | simp only [List.setIfInBounds_toArray] | simp only [List.set_cons_succ] | simp only [List.set_cons_zero]))
    have HSe : Hid ((seedG d i).length = 32) := aside (by unfold seedG; exact macL_len _ _)
    refine wpAnyH_take (i := 13) (v := .bool false) rfl (by kernel_rfl) (by kernel_rfl) (by kernel_rfl) (fun _ _ _ h => h) (Or.inl ⟨by rfl, (by
      intro W hSw
      (try dsimp only at hSw)
      go_simp
      rw [dig_guard, Result.andThen_ok, dig_neq _ _ HSe.out HSe.out, Result.andThen_ok]
      simp)⟩) HS7q.out ?_
    (repeat (first | simp only [List.getElem_toArray] | simp only [List.getElem_cons_succ] | simp only [List.getElem_cons_zero] | simp only [Act.put] | simp only [List.setIfInBounds_toArray] | simp only [List.set_cons_succ] | simp only [List.set_cons_zero]))
    refine wpAnyH_take (i := 14) (v := ?_) rfl (by kernel_rfl) (by kernel_rfl) (by kernel_rfl) (fun _ _ _ h => h) (Or.inl ⟨by rfl, ?_⟩) HS7q.out ?_
    rotate_left
    · (intro W hSw; (try dsimp only at hSw); go_simp; try with_reducible rfl)
    (repeat (first | simp only [List.getElem_toArray] | simp only [List.getElem_cons_succ] | simp only [List.getElem_cons_zero] | simp only [Act.put] | simp only [List.setIfInBounds_toArray] | simp only [List.set_cons_succ] | simp only [List.set_cons_zero]))
    refine wpAnyH_done (by kernel_rfl) ?_ _
    have HB7 : Hid (Below w1.heap.size w1 w7) := aside (HB5.out.trans (HS7q.out.mono HB5.out.size))
    have HBw7 : Hid (Below w.heap.size w w7) := aside (B1.out.trans (HB7.out.mono B1.out.size))
    clear HS6q HS7q D05 l05 HG5 HB5 HBw5
    have HKF := aside (rkeys_any n cs A m c w7 ((H.out.below HBw7.out).more HBw7.out.size) HBt.out)
    obtain ⟨q, hq⟩ : ∃ q, q = chQ n cs := ⟨_, rfl⟩
    have HQ := aside hq
    rw [← hq] at HKF
    clear hq
    go_wp2_with fail
    refine HKF.out.mono ?_
    rintro e w8 ⟨rfl, hb9⟩
    have HB8 : Hid (Below w1.heap.size w1 w8) := aside (HB7.out.trans (hb9.mono HB7.out.size))
    have HBw8 : Hid (Below w.heap.size w w8) := aside (B1.out.trans (HB8.out.mono B1.out.size))
    clear HKF hb9 HB7 HBw7
    have hq0 : ¬ q = 0 := by
      rw [HQ.out]
      unfold chQ
      rw [if_pos (.inr h6)]
      decide
    have hqq : (q == 0) = false := by simp [hq0]
    have HR := aside (bal_bad (d := d) HQ.out hq0)
    clear h5 hq0 HQ
    generalize q = E at *
    obtain ⟨S, hS0⟩ : ∃ S : Int, S = 0 := ⟨_, rfl⟩
    rw [← hS0] at HR
    have HBX := HB8
    have HBwX := HBw8
    generalize w8 = wx at HBX HBwX ⊢
    have D0x : Hid (BlkY wx B0 23 d) := aside (D0.out.below HBX.out l0)
    have HBal := aside (balance_any d HDl.out HDb.out n cs A m c wx ((H.out.below HBwX.out).more HBwX.out.size) (HG.out.below HBwX.out))
    rw [HR.out, hS0] at HBal
    go_wp2_with (first
      | (refine wpList_load_row rfl 23 (.tmp 5) rfl B0 rfl 23 (rowY d) (0, 0) _ D0x.out Tryz.underlying23 rfl HS7.out ?_)
      | fail)
    refine (show Calls _ _ #[digV d, _, _] _ _ from HBal.out).mono ?_
    rintro e wy ⟨rfl, hb9⟩
    have HBY : Hid (Below w1.heap.size w1 wy) := aside (HBX.out.trans (hb9.mono HBX.out.size))
    have HBwY : Hid (Below w.heap.size w wy) := aside (B1.out.trans (HBY.out.mono B1.out.size))
    have HErr := aside (error_at (k := E) (j := E) (v := errP E) (w := wy) rfl (HEv.out.below (errVar_lt HEv.out) HBwY.out))
    clear hb9 HBal D0x HBX HBwX
    dsimp only
    go_wp2_with fail
    refine HErr.out.mono ?_
    rintro e wz ⟨rfl, hb9⟩
    have HBZ : Hid (Below w1.heap.size w1 wz) := aside (HBY.out.trans (hb9.mono HBY.out.size))
    have HBwZ : Hid (Below w.heap.size w wz) := aside (B1.out.trans (HBZ.out.mono B1.out.size))
    have hEE : (E == E) = true := by simp
    have hSS : (S == S) = true := by simp
    rw [hEE]
    clear hb9 HErr HBY HBwY
    go_wp2_with fail
    go_quiet (fail)
    go_wp2
    go_ret
    exact ⟨by simp, by first | exact HBwZ.out | exact below_drawn HBwZ.out _⟩
  have h4' : (4 < n) = False := by simp [h4]
  have hn100 : n ≤ 100 := by omega
  have h6 : (100 < n) = False := by simp only [eq_iff_iff, iff_false]; omega
  have D02 : Hid (BlkY w2 B0 23 d) := aside (D0.out.below HB2.out l0)
  have l02 := D02.out.lt
  have HG2 := aside (HG.out.below HBw2.out)
  go_upto_region 4 with fail
  refine wp_region_held_drew (S := (fun w' => Below w2.heap.size w2 w')) (by kernel_rfl) (below_drawn (Below.refl _ _) 1) (fun hS => ?_)
  refine wpAnyH_take (i := 0) (v := _) rfl (by kernel_rfl) (by kernel_rfl) (by kernel_rfl) (fun _ _ _ h => h) (yieldsIf_load_mid (by rfl) _ _ rfl B0 0 rfl (u8s d) _ (fun W hW => (D02.out.below hW l02).range) Tryz.underlying23 rfl (by rw [u8s_len, HDl.out]; exact digInfo)) hS ?_
  (repeat (first | simp only [List.getElem_toArray] | simp only [List.getElem_cons_succ] | simp only [List.getElem_cons_zero] | simp only [Act.put] | simp only [List.setIfInBounds_toArray] | simp only [List.set_cons_succ] | simp only [List.set_cons_zero]))
  refine wpAnyH_take (i := 1) (v := ?_) rfl (by kernel_rfl) (by kernel_rfl) (by kernel_rfl) (fun _ _ _ h => h) (Or.inl ⟨by rfl, ?_⟩) hS ?_
  rotate_left
  · (intro W hSw; (try dsimp only at hSw); go_simp; try with_reducible rfl)
  (repeat (first | simp only [List.getElem_toArray] | simp only [List.getElem_cons_succ] | simp only [List.getElem_cons_zero] | simp only [Act.put] | simp only [List.setIfInBounds_toArray] | simp only [List.set_cons_succ] | simp only [List.set_cons_zero]))
  refine wpAnyH_take (i := 3) (v := _) rfl (by kernel_rfl) (by kernel_rfl) (by kernel_rfl) (fun _ _ _ h => h) (yieldsIf_load_mid (by rfl) _ _ rfl B0 0 rfl (u8s d) _ (fun W hW => (D02.out.below hW l02).range) Tryz.underlying23 rfl (by rw [u8s_len, HDl.out]; exact digInfo)) hS ?_
  (repeat (first | simp only [List.getElem_toArray] | simp only [List.getElem_cons_succ] | simp only [List.getElem_cons_zero] | simp only [Act.put] | simp only [List.setIfInBounds_toArray] | simp only [List.set_cons_succ] | simp only [List.set_cons_zero]))
  refine wpAnyH_take (i := 4) (v := ?_) rfl (by kernel_rfl) (by kernel_rfl) (by kernel_rfl) (fun _ _ _ h => h) (Or.inl ⟨by rfl, ?_⟩) hS ?_
  rotate_left
  · (intro W hSw; (try dsimp only at hSw); go_simp; try with_reducible rfl)
  (repeat (first | simp only [List.getElem_toArray] | simp only [List.getElem_cons_succ] | simp only [List.getElem_cons_zero] | simp only [Act.put] | simp only [List.setIfInBounds_toArray] | simp only [List.set_cons_succ] | simp only [List.set_cons_zero]))
  refine wpAnyH_all (rs := [2]) (by kernel_rfl) (by simp) ?_
  intro m9 hm9
  obtain rfl := List.mem_singleton.1 hm9
  refine wpOp_of_list rfl ?_
  (repeat (first | simp only [List.getElem_toArray] | simp only [List.getElem_cons_succ] | simp only [List.getElem_cons_zero]))
  go_wp2_with (first
    | (go_at_call 6; refine (show Calls _ _ #[digV d, _] _ _ from lockG_any d HDl.out HDb.out i hi w2.drew (HG2.out.below (below_drawn (Below.refl _ _) 1))).mono ?_; rintro e w3 ⟨A3, rs3, rfl, hdep, hpl, hb9⟩; have HP3 := aside hdep; have HE3 := aside hpl; have hS3 : Below w2.heap.size w2 w3 := hS.trans hb9; have HS3q := aside hS3; clear hdep hpl hb9 hS3)
    | fail)
  change _ ∧ _
  refine ⟨HS3q.out, ?_⟩
  (try dsimp only)
  (repeat (first | simp only [List.getElem_toArray] | simp only [List.getElem_cons_succ] | simp only [List.getElem_cons_zero] | simp only [Act.put] | simp only [List.setIfInBounds_toArray] | simp only [List.set_cons_succ] | simp only [List.set_cons_zero]))
  refine wpAnyH_all (rs := [5]) (by kernel_rfl) (by simp) ?_
  intro m9 hm9
  obtain rfl := List.mem_singleton.1 hm9
  refine wpOp_of_list rfl ?_
  (repeat (first | simp only [List.getElem_toArray] | simp only [List.getElem_cons_succ] | simp only [List.getElem_cons_zero]))
  go_wp2_with (first
    | (go_at_call 7; refine (show Calls _ _ #[digV d, _] _ _ from qlock_any d HDl.out HDb.out i hi w3 (HG2.out.below HS3q.out)).mono ?_; rintro e w4 ⟨A4, rs4, rfl, hdep, hpl, hb9⟩; have HP4 := aside hdep; have HE4 := aside hpl; have HK4 := aside hb9; have hS4 : Below w2.heap.size w2 w4 := HS3q.out.trans (hb9.mono HS3q.out.size); have HS4q := aside hS4; clear hdep hpl hb9 hS4)
    | fail)
  change _ ∧ _
  refine ⟨HS4q.out, ?_⟩
  (try dsimp only)
  (repeat (first | simp only [List.getElem_toArray] | simp only [List.getElem_cons_succ] | simp only [List.getElem_cons_zero] | simp only [Act.put] | simp only [List.setIfInBounds_toArray] | simp only [List.set_cons_succ] | simp only [List.set_cons_zero]))
  refine wpAnyH_all (rs := [6]) (by kernel_rfl) (by simp) ?_
  intro m9 hm9
  obtain rfl := List.mem_singleton.1 hm9
  refine wpOp_of_list rfl ?_
  (repeat (first | simp only [List.getElem_toArray] | simp only [List.getElem_cons_succ] | simp only [List.getElem_cons_zero]))
  have HR3 := aside (HP3.out w4 (fun b _ hb => HK4.out.block b hb) HK4.out.size)
  have HR4 := aside (HP4.out w4 (fun b _ hb => rfl) (Nat.le_refl _))
  have HSL := aside (slock_any rs3 rs4 true (by rw [HE3.out, HE4.out]; simp) A3 A4 2 2 2 2 (by omega) w4 HR3.out HR4.out (lock_shortG HR3.out HE3.out))
  go_wp2_with (first
    | (go_at_call 5; refine HSL.out.mono ?_; rintro e w5 ⟨rfl, hb9⟩; have hS5 : Below w2.heap.size w2 w5 := HS4q.out.trans (hb9.mono HS4q.out.size); have HS5q := aside hS5; clear hb9 hS5)
    | fail)
  change _ ∧ _
  refine ⟨HS5q.out, ?_⟩
  (try dsimp only)
  (repeat (first | simp only [List.getElem_toArray] | simp only [List.getElem_cons_succ] | simp only [List.getElem_cons_zero] | simp only [Act.put] | simp only [List.setIfInBounds_toArray] | simp only [List.set_cons_succ] | simp only [List.set_cons_zero]))
  refine wpAnyH_take (i := 7) (v := ?_) rfl (by kernel_rfl) (by kernel_rfl) (by kernel_rfl) (fun _ _ _ h => h) (Or.inl ⟨by rfl, ?_⟩) HS5q.out ?_
  rotate_left
  · (intro W hSw; (try dsimp only at hSw); go_simp; try with_reducible rfl)
  (repeat (first | simp only [List.getElem_toArray] | simp only [List.getElem_cons_succ] | simp only [List.getElem_cons_zero] | simp only [Act.put] | simp only [List.setIfInBounds_toArray] | simp only [List.set_cons_succ] | simp only [List.set_cons_zero]))
  refine wpAnyH_done (by kernel_rfl) ?_ _
  clear HR3 HR4 HSL HP3 HP4 HE3 HE4 HK4 HS3q HS4q
  have HB5 : Hid (Below w1.heap.size w1 w5) := aside (HB2.out.trans (HS5q.out.mono HB2.out.size))
  have HBw5 : Hid (Below w.heap.size w w5) := aside (B1.out.trans (HB5.out.mono B1.out.size))
  have D05 : Hid (BlkY w5 B0 23 d) := aside (D0.out.below HB5.out l0)
  have l05 := D05.out.lt
  have HG5 := aside (HG.out.below HBw5.out)
  clear HS5q D02 l02 HG2 HB2 HBw2
  go_upto_region 5 with fail
  refine wp_region_held_drew (S := (fun w' => Below w5.heap.size w5 w')) (by kernel_rfl) (below_drawn (Below.refl _ _) 1) (fun hS => ?_)
  refine wpAnyH_take (i := 0) (v := ?_) rfl (by kernel_rfl) (by kernel_rfl) (by kernel_rfl) (fun _ _ _ h => h) (Or.inl ⟨by rfl, ?_⟩) hS ?_
  rotate_left
  · (intro W hSw; (try dsimp only at hSw); go_simp; try with_reducible rfl)
  (repeat (first | simp only [List.getElem_toArray] | simp only [List.getElem_cons_succ] | simp only [List.getElem_cons_zero] | simp only [Act.put] | simp only [List.setIfInBounds_toArray] | simp only [List.set_cons_succ] | simp only [List.set_cons_zero]))
  refine wpAnyH_take (i := 1) (v := ?_) rfl (by kernel_rfl) (by kernel_rfl) (by kernel_rfl) (fun _ _ _ h => h) (Or.inl ⟨by rfl, ?_⟩) hS ?_
  rotate_left
  · (intro W hSw; (try dsimp only at hSw); go_simp; try with_reducible rfl)
  (repeat (first | simp only [List.getElem_toArray] | simp only [List.getElem_cons_succ] | simp only [List.getElem_cons_zero] | simp only [Act.put] | simp only [List.setIfInBounds_toArray] | simp only [List.set_cons_succ] | simp only [List.set_cons_zero]))
  refine wpAnyH_take (i := 2) (v := ?_) rfl (by kernel_rfl) (by kernel_rfl) (by kernel_rfl) (fun _ _ _ h => h) (Or.inl ⟨by rfl, ?_⟩) hS ?_
  rotate_left
  · (intro W hSw; (try dsimp only at hSw); go_simp; try with_reducible rfl)
  (repeat (first | simp only [List.getElem_toArray] | simp only [List.getElem_cons_succ] | simp only [List.getElem_cons_zero] | simp only [Act.put] | simp only [List.setIfInBounds_toArray] | simp only [List.set_cons_succ] | simp only [List.set_cons_zero]))
  refine wpAnyH_take (i := 3) (v := ?_) rfl (by kernel_rfl) (by kernel_rfl) (by kernel_rfl) (fun _ _ _ h => h) (Or.inl ⟨by rfl, ?_⟩) hS ?_
  rotate_left
  · (intro W hSw; (try dsimp only at hSw); go_simp; try with_reducible rfl)
  (repeat (first | simp only [List.getElem_toArray] | simp only [List.getElem_cons_succ] | simp only [List.getElem_cons_zero] | simp only [Act.put] | simp only [List.setIfInBounds_toArray] | simp only [List.set_cons_succ] | simp only [List.set_cons_zero]))
  refine wpAnyH_take (i := 4) (v := ?_) rfl (by kernel_rfl) (by kernel_rfl) (by kernel_rfl) (fun _ _ _ h => h) (Or.inl ⟨by rfl, ?_⟩) hS ?_
  rotate_left
  · (intro W hSw; (try dsimp only at hSw); go_simp; try with_reducible rfl)
  (repeat (first | simp only [List.getElem_toArray] | simp only [List.getElem_cons_succ] | simp only [List.getElem_cons_zero] | simp only [Act.put] | simp only [List.setIfInBounds_toArray] | simp only [List.set_cons_succ] | simp only [List.set_cons_zero]))
  refine wpAnyH_take (i := 5) (v := ?_) rfl (by kernel_rfl) (by kernel_rfl) (by kernel_rfl) (fun _ _ _ h => h) (Or.inl ⟨by rfl, ?_⟩) hS ?_
  rotate_left
  · (intro W hSw; (try dsimp only at hSw); go_simp; try with_reducible rfl)
  (repeat (first | simp only [List.getElem_toArray] | simp only [List.getElem_cons_succ] | simp only [List.getElem_cons_zero] | simp only [Act.put] | simp only [List.setIfInBounds_toArray] | simp only [List.set_cons_succ] | simp only [List.set_cons_zero]))
  refine wpAnyH_take (i := 6) (v := ?_) rfl (by kernel_rfl) (by kernel_rfl) (by kernel_rfl) (fun _ _ _ h => h) (Or.inl ⟨by rfl, ?_⟩) hS ?_
  rotate_left
  · (intro W hSw; (try dsimp only at hSw); go_simp; try with_reducible rfl)
  (repeat (first | simp only [List.getElem_toArray] | simp only [List.getElem_cons_succ] | simp only [List.getElem_cons_zero] | simp only [Act.put] | simp only [List.setIfInBounds_toArray] | simp only [List.set_cons_succ] | simp only [List.set_cons_zero]))
  refine wpAnyH_take (i := 7) (v := _) rfl (by kernel_rfl) (by kernel_rfl) (by kernel_rfl) (fun _ _ _ h => h) (yieldsIf_load_mid (by rfl) _ _ rfl B0 0 rfl (u8s d) _ (fun W hW => (D05.out.below hW l05).range) Tryz.underlying23 rfl (by rw [u8s_len, HDl.out]; exact digInfo)) hS ?_
  (repeat (first | simp only [List.getElem_toArray] | simp only [List.getElem_cons_succ] | simp only [List.getElem_cons_zero] | simp only [Act.put] | simp only [List.setIfInBounds_toArray] | simp only [List.set_cons_succ] | simp only [List.set_cons_zero]))
  refine wpAnyH_take (i := 8) (v := ?_) rfl (by kernel_rfl) (by kernel_rfl) (by kernel_rfl) (fun _ _ _ h => h) (Or.inl ⟨by rfl, ?_⟩) hS ?_
  rotate_left
  · (intro W hSw; (try dsimp only at hSw); go_simp; try with_reducible rfl)
  (repeat (first | simp only [List.getElem_toArray] | simp only [List.getElem_cons_succ] | simp only [List.getElem_cons_zero] | simp only [Act.put] | simp only [List.setIfInBounds_toArray] | simp only [List.set_cons_succ] | simp only [List.set_cons_zero]))
  refine wpAnyH_take (i := 10) (v := _) rfl (by kernel_rfl) (by kernel_rfl) (by kernel_rfl) (fun _ _ _ h => h) (yieldsIf_load_mid (by rfl) _ _ rfl B0 0 rfl (u8s d) _ (fun W hW => (D05.out.below hW l05).range) Tryz.underlying23 rfl (by rw [u8s_len, HDl.out]; exact digInfo)) hS ?_
  (repeat (first | simp only [List.getElem_toArray] | simp only [List.getElem_cons_succ] | simp only [List.getElem_cons_zero] | simp only [Act.put] | simp only [List.setIfInBounds_toArray] | simp only [List.set_cons_succ] | simp only [List.set_cons_zero]))
  refine wpAnyH_take (i := 11) (v := ?_) rfl (by kernel_rfl) (by kernel_rfl) (by kernel_rfl) (fun _ _ _ h => h) (Or.inl ⟨by rfl, ?_⟩) hS ?_
  rotate_left
  · (intro W hSw; (try dsimp only at hSw); go_simp; try with_reducible rfl)
  (repeat (first | simp only [List.getElem_toArray] | simp only [List.getElem_cons_succ] | simp only [List.getElem_cons_zero] | simp only [Act.put] | simp only [List.setIfInBounds_toArray] | simp only [List.set_cons_succ] | simp only [List.set_cons_zero]))
  refine wpAnyH_all (rs := [9]) (by kernel_rfl) (by simp) ?_
  intro m9 hm9
  obtain rfl := List.mem_singleton.1 hm9
  refine wpOp_of_list rfl ?_
  (repeat (first | simp only [List.getElem_toArray] | simp only [List.getElem_cons_succ] | simp only [List.getElem_cons_zero]))
  go_wp2_with (first
    | (go_at_call 8; refine (show Calls _ _ #[digV d, _] _ _ from seedG_any d HDl.out HDb.out i hi w5.drew (HG5.out.below (below_drawn (Below.refl _ _) 1))).mono ?_; rintro e w6 ⟨rfl, hb9⟩; have hS6 : Below w5.heap.size w5 w6 := hS.trans hb9; have HS6q := aside hS6; clear hb9 hS6)
    | fail)
  change _ ∧ _
  refine ⟨HS6q.out, ?_⟩
  (try dsimp only)
  (repeat (first | simp only [List.getElem_toArray] | simp only [List.getElem_cons_succ] | simp only [List.getElem_cons_zero] | simp only [Act.put] | simp only [List.setIfInBounds_toArray] | simp only [List.set_cons_succ] | simp only [List.set_cons_zero]))
  refine wpAnyH_all (rs := [12]) (by kernel_rfl) (by simp) ?_
  intro m9 hm9
  obtain rfl := List.mem_singleton.1 hm9
  refine wpOp_of_list rfl ?_
  (repeat (first | simp only [List.getElem_toArray] | simp only [List.getElem_cons_succ] | simp only [List.getElem_cons_zero]))
  go_wp2_with (first
    | (go_at_call 9; refine (show Calls _ _ #[digV d, _] _ _ from qseed_any d HDl.out HDb.out i hi w6 (HG5.out.below HS6q.out)).mono ?_; rintro e w7 ⟨rfl, hb9⟩; have hS7 : Below w5.heap.size w5 w7 := HS6q.out.trans (hb9.mono HS6q.out.size); have HS7q := aside hS7; clear hb9 hS7)
    | fail)
  change _ ∧ _
  refine ⟨HS7q.out, ?_⟩
  (try dsimp only)
  (repeat (first | simp only [List.getElem_toArray] | simp only [List.getElem_cons_succ] | simp only [List.getElem_cons_zero] | simp only [Act.put] | simp only [List.setIfInBounds_toArray] | simp only [List.set_cons_succ] | simp only [List.set_cons_zero]))
  have HSe : Hid ((seedG d i).length = 32) := aside (by unfold seedG; exact macL_len _ _)
  refine wpAnyH_take (i := 13) (v := .bool false) rfl (by kernel_rfl) (by kernel_rfl) (by kernel_rfl) (fun _ _ _ h => h) (Or.inl ⟨by rfl, (by
    intro W hSw
    (try dsimp only at hSw)
    go_simp
    rw [dig_guard, Result.andThen_ok, dig_neq _ _ HSe.out HSe.out, Result.andThen_ok]
    simp)⟩) HS7q.out ?_
  (repeat (first | simp only [List.getElem_toArray] | simp only [List.getElem_cons_succ] | simp only [List.getElem_cons_zero] | simp only [Act.put] | simp only [List.setIfInBounds_toArray] | simp only [List.set_cons_succ] | simp only [List.set_cons_zero]))
  refine wpAnyH_take (i := 14) (v := ?_) rfl (by kernel_rfl) (by kernel_rfl) (by kernel_rfl) (fun _ _ _ h => h) (Or.inl ⟨by rfl, ?_⟩) HS7q.out ?_
  rotate_left
  · (intro W hSw; (try dsimp only at hSw); go_simp; try with_reducible rfl)
  (repeat (first | simp only [List.getElem_toArray] | simp only [List.getElem_cons_succ] | simp only [List.getElem_cons_zero] | simp only [Act.put] | simp only [List.setIfInBounds_toArray] | simp only [List.set_cons_succ] | simp only [List.set_cons_zero]))
  refine wpAnyH_done (by kernel_rfl) ?_ _
  have HB7 : Hid (Below w1.heap.size w1 w7) := aside (HB5.out.trans (HS7q.out.mono HB5.out.size))
  have HBw7 : Hid (Below w.heap.size w w7) := aside (B1.out.trans (HB7.out.mono B1.out.size))
  clear HS6q HS7q D05 l05 HG5 HB5 HBw5
  have HKF := aside (rkeys_any n cs A m c w7 ((H.out.below HBw7.out).more HBw7.out.size) HBt.out)
  obtain ⟨q, hq⟩ : ∃ q, q = chQ n cs := ⟨_, rfl⟩
  have HQ := aside hq
  rw [← hq] at HKF
  clear hq
  go_wp2_with fail
  refine HKF.out.mono ?_
  rintro e w8 ⟨rfl, hb9⟩
  have HB8 : Hid (Below w1.heap.size w1 w8) := aside (HB7.out.trans (hb9.mono HB7.out.size))
  have HBw8 : Hid (Below w.heap.size w w8) := aside (B1.out.trans (HB8.out.mono B1.out.size))
  clear HKF hb9 HB7 HBw7
  by_cases hq0 : ¬ q = 0
  · have hqq : (q == 0) = false := by simp [hq0]
    have HR := aside (bal_bad (d := d) HQ.out hq0)
    clear hq0 HQ
    generalize q = E at *
    have HBX := HB8
    have HBwX := HBw8
    generalize w8 = wx at HBX HBwX ⊢
    have D0x : Hid (BlkY wx B0 23 d) := aside (D0.out.below HBX.out l0)
    have HBal := aside (balance_any d HDl.out HDb.out n cs A m c wx ((H.out.below HBwX.out).more HBwX.out.size) (HG.out.below HBwX.out))
    rw [HR.out] at HBal
    go_wp2_with (first
      | (refine wpList_load_row rfl 23 (.tmp 5) rfl B0 rfl 23 (rowY d) (0, 0) _ D0x.out Tryz.underlying23 rfl HS7.out ?_)
      | fail)
    refine (show Calls _ _ #[digV d, _, _] _ _ from HBal.out).mono ?_
    rintro e wy ⟨rfl, hb9⟩
    have HBY : Hid (Below w1.heap.size w1 wy) := aside (HBX.out.trans (hb9.mono HBX.out.size))
    have HBwY : Hid (Below w.heap.size w wy) := aside (B1.out.trans (HBY.out.mono B1.out.size))
    have HErr := aside (error_at (k := E) (j := E) (v := errP E) (w := wy) rfl (HEv.out.below (errVar_lt HEv.out) HBwY.out))
    clear hb9 HBal D0x HBX HBwX
    dsimp only
    go_wp2_with fail
    refine HErr.out.mono ?_
    rintro e wz ⟨rfl, hb9⟩
    have HBZ : Hid (Below w1.heap.size w1 wz) := aside (HBY.out.trans (hb9.mono HBY.out.size))
    have HBwZ : Hid (Below w.heap.size w wz) := aside (B1.out.trans (HBZ.out.mono B1.out.size))
    have hEE : (E == E) = true := by simp
    have hSS : ((0 : Int) == 0) = true := by simp
    rw [hEE]
    clear hb9 HErr HBY HBwY
    have D0z : Hid (BlkY wz B0 23 d) := aside (D0.out.below HBZ.out l0)
    have D1z : Hid (wz.heap[B0 + 1]? = some (.cells #[.int .i64 a, .slice oA on oc] 27 (0, 0))) := aside ((HBZ.out.block _ l1).trans D1.out)
    have l0z := D0z.out.lt
    have l1z : B0 + 1 < wz.heap.size := (Array.getElem?_eq_some_iff.1 D1z.out).1
    have HGz := aside (HG.out.below HBwZ.out)
    have HOz := aside ((HO.out.below HBwZ.out).more HBwZ.out.size)
    go_upto_region 13 with fail
    refine wp_region_held_drew (S := (fun w' => Below wz.heap.size wz w')) (by kernel_rfl) (below_drawn (Below.refl _ _) 1) (fun hS => ?_)
    refine wpAnyH_take (i := 0) (v := ?_) rfl (by kernel_rfl) (by kernel_rfl) (by kernel_rfl) (fun _ _ _ h => h) (Or.inl ⟨by rfl, ?_⟩) hS ?_
    rotate_left
    · (intro W hSw; (try dsimp only at hSw); go_simp; try with_reducible rfl)
    (repeat (first | simp only [List.getElem_toArray] | simp only [List.getElem_cons_succ] | simp only [List.getElem_cons_zero] | simp only [Act.put] | simp only [List.setIfInBounds_toArray] | simp only [List.set_cons_succ] | simp only [List.set_cons_zero]))
    refine wpAnyH_take (i := 1) (v := ?_) rfl (by kernel_rfl) (by kernel_rfl) (by kernel_rfl) (fun _ _ _ h => h) (Or.inl ⟨by rfl, ?_⟩) hS ?_
    rotate_left
    · (intro W hSw; (try dsimp only at hSw); go_simp; try with_reducible rfl)
    (repeat (first | simp only [List.getElem_toArray] | simp only [List.getElem_cons_succ] | simp only [List.getElem_cons_zero] | simp only [Act.put] | simp only [List.setIfInBounds_toArray] | simp only [List.set_cons_succ] | simp only [List.set_cons_zero]))
    refine wpAnyH_take (i := 2) (v := ?_) rfl (by kernel_rfl) (by kernel_rfl) (by kernel_rfl) (fun _ _ _ h => h) (Or.inl ⟨by rfl, ?_⟩) hS ?_
    rotate_left
    · (intro W hSw; (try dsimp only at hSw); go_simp; try with_reducible rfl)
    (repeat (first | simp only [List.getElem_toArray] | simp only [List.getElem_cons_succ] | simp only [List.getElem_cons_zero] | simp only [Act.put] | simp only [List.setIfInBounds_toArray] | simp only [List.set_cons_succ] | simp only [List.set_cons_zero]))
    refine wpAnyH_take (i := 3) (v := ?_) rfl (by kernel_rfl) (by kernel_rfl) (by kernel_rfl) (fun _ _ _ h => h) (Or.inl ⟨by rfl, ?_⟩) hS ?_
    rotate_left
    · (intro W hSw; (try dsimp only at hSw); go_simp; try with_reducible rfl)
    (repeat (first | simp only [List.getElem_toArray] | simp only [List.getElem_cons_succ] | simp only [List.getElem_cons_zero] | simp only [Act.put] | simp only [List.setIfInBounds_toArray] | simp only [List.set_cons_succ] | simp only [List.set_cons_zero]))
    refine wpAnyH_take (i := 4) (v := ?_) rfl (by kernel_rfl) (by kernel_rfl) (by kernel_rfl) (fun _ _ _ h => h) (Or.inl ⟨by rfl, ?_⟩) hS ?_
    rotate_left
    · (intro W hSw; (try dsimp only at hSw); go_simp; try with_reducible rfl)
    (repeat (first | simp only [List.getElem_toArray] | simp only [List.getElem_cons_succ] | simp only [List.getElem_cons_zero] | simp only [Act.put] | simp only [List.setIfInBounds_toArray] | simp only [List.set_cons_succ] | simp only [List.set_cons_zero]))
    refine wpAnyH_take (i := 5) (v := ?_) rfl (by kernel_rfl) (by kernel_rfl) (by kernel_rfl) (fun _ _ _ h => h) (Or.inl ⟨by rfl, ?_⟩) hS ?_
    rotate_left
    · (intro W hSw; (try dsimp only at hSw); go_simp; try with_reducible rfl)
    (repeat (first | simp only [List.getElem_toArray] | simp only [List.getElem_cons_succ] | simp only [List.getElem_cons_zero] | simp only [Act.put] | simp only [List.setIfInBounds_toArray] | simp only [List.set_cons_succ] | simp only [List.set_cons_zero]))
    refine wpAnyH_take (i := 6) (v := ?_) rfl (by kernel_rfl) (by kernel_rfl) (by kernel_rfl) (fun _ _ _ h => h) (Or.inl ⟨by rfl, ?_⟩) hS ?_
    rotate_left
    · (intro W hSw; (try dsimp only at hSw); go_simp; try with_reducible rfl)
    (repeat (first | simp only [List.getElem_toArray] | simp only [List.getElem_cons_succ] | simp only [List.getElem_cons_zero] | simp only [Act.put] | simp only [List.setIfInBounds_toArray] | simp only [List.set_cons_succ] | simp only [List.set_cons_zero]))
    refine wpAnyH_take (i := 7) (v := ?_) rfl (by kernel_rfl) (by kernel_rfl) (by kernel_rfl) (fun _ _ _ h => h) (Or.inl ⟨by rfl, ?_⟩) hS ?_
    rotate_left
    · (intro W hSw; (try dsimp only at hSw); go_simp; try with_reducible rfl)
    (repeat (first | simp only [List.getElem_toArray] | simp only [List.getElem_cons_succ] | simp only [List.getElem_cons_zero] | simp only [Act.put] | simp only [List.setIfInBounds_toArray] | simp only [List.set_cons_succ] | simp only [List.set_cons_zero]))
    refine wpAnyH_take (i := 8) (v := ?_) rfl (by kernel_rfl) (by kernel_rfl) (by kernel_rfl) (fun _ _ _ h => h) (Or.inl ⟨by rfl, ?_⟩) hS ?_
    rotate_left
    · (intro W hSw; (try dsimp only at hSw); go_simp; try with_reducible rfl)
    (repeat (first | simp only [List.getElem_toArray] | simp only [List.getElem_cons_succ] | simp only [List.getElem_cons_zero] | simp only [Act.put] | simp only [List.setIfInBounds_toArray] | simp only [List.set_cons_succ] | simp only [List.set_cons_zero]))
    refine wpAnyH_take (i := 9) (v := ?_) rfl (by kernel_rfl) (by kernel_rfl) (by kernel_rfl) (fun _ _ _ h => h) (Or.inl ⟨by rfl, ?_⟩) hS ?_
    rotate_left
    · (intro W hSw; (try dsimp only at hSw); go_simp; try with_reducible rfl)
    (repeat (first | simp only [List.getElem_toArray] | simp only [List.getElem_cons_succ] | simp only [List.getElem_cons_zero] | simp only [Act.put] | simp only [List.setIfInBounds_toArray] | simp only [List.set_cons_succ] | simp only [List.set_cons_zero]))
    refine wpAnyH_take (i := 10) (v := _) rfl (by kernel_rfl) (by kernel_rfl) (by kernel_rfl) (fun _ _ _ h => h) (yieldsIf_load_mid (by rfl) _ _ rfl B0 0 rfl (u8s d) _ (fun W hW => (D0z.out.below hW l0z).range) Tryz.underlying23 rfl (by rw [u8s_len, HDl.out]; exact digInfo)) hS ?_
    (repeat (first | simp only [List.getElem_toArray] | simp only [List.getElem_cons_succ] | simp only [List.getElem_cons_zero] | simp only [Act.put] | simp only [List.setIfInBounds_toArray] | simp only [List.set_cons_succ] | simp only [List.set_cons_zero]))
    refine wpAnyH_take (i := 11) (v := ?_) rfl (by kernel_rfl) (by kernel_rfl) (by kernel_rfl) (fun _ _ _ h => h) (Or.inl ⟨by rfl, ?_⟩) hS ?_
    rotate_left
    · (intro W hSw; (try dsimp only at hSw); go_simp; try with_reducible rfl)
    (repeat (first | simp only [List.getElem_toArray] | simp only [List.getElem_cons_succ] | simp only [List.getElem_cons_zero] | simp only [Act.put] | simp only [List.setIfInBounds_toArray] | simp only [List.set_cons_succ] | simp only [List.set_cons_zero]))
    refine wpAnyH_take (i := 12) (v := _) rfl (by kernel_rfl) (by kernel_rfl) (by kernel_rfl) (fun _ _ _ h => h) (yieldsIf_load_mid (by rfl) _ _ rfl (B0 + 1) 0 rfl [.int .i64 a, .slice oA on oc] _ (fun W hW => row_range ((hW.block (B0 + 1) l1z).trans D1z.out)) Tryz.underlying27 rfl outInfo) hS ?_
    (repeat (first | simp only [List.getElem_toArray] | simp only [List.getElem_cons_succ] | simp only [List.getElem_cons_zero] | simp only [Act.put] | simp only [List.setIfInBounds_toArray] | simp only [List.set_cons_succ] | simp only [List.set_cons_zero]))
    refine wpAnyH_take (i := 14) (v := _) rfl (by kernel_rfl) (by kernel_rfl) (by kernel_rfl) (fun _ _ _ h => h) (yieldsIf_load_mid (by rfl) _ _ rfl B0 0 rfl (u8s d) _ (fun W hW => (D0z.out.below hW l0z).range) Tryz.underlying23 rfl (by rw [u8s_len, HDl.out]; exact digInfo)) hS ?_
    (repeat (first | simp only [List.getElem_toArray] | simp only [List.getElem_cons_succ] | simp only [List.getElem_cons_zero] | simp only [Act.put] | simp only [List.setIfInBounds_toArray] | simp only [List.set_cons_succ] | simp only [List.set_cons_zero]))
    refine wpAnyH_take (i := 15) (v := ?_) rfl (by kernel_rfl) (by kernel_rfl) (by kernel_rfl) (fun _ _ _ h => h) (Or.inl ⟨by rfl, ?_⟩) hS ?_
    rotate_left
    · (intro W hSw; (try dsimp only at hSw); go_simp; try with_reducible rfl)
    (repeat (first | simp only [List.getElem_toArray] | simp only [List.getElem_cons_succ] | simp only [List.getElem_cons_zero] | simp only [Act.put] | simp only [List.setIfInBounds_toArray] | simp only [List.set_cons_succ] | simp only [List.set_cons_zero]))
    refine wpAnyH_take (i := 17) (v := _) rfl (by kernel_rfl) (by kernel_rfl) (by kernel_rfl) (fun _ _ _ h => h) (yieldsIf_load_mid (by rfl) _ _ rfl (B0 + 1) 0 rfl [.int .i64 a, .slice oA on oc] _ (fun W hW => row_range ((hW.block (B0 + 1) l1z).trans D1z.out)) Tryz.underlying27 rfl outInfo) hS ?_
    (repeat (first | simp only [List.getElem_toArray] | simp only [List.getElem_cons_succ] | simp only [List.getElem_cons_zero] | simp only [Act.put] | simp only [List.setIfInBounds_toArray] | simp only [List.set_cons_succ] | simp only [List.set_cons_zero]))
    refine wpAnyH_all (rs := [13]) (by kernel_rfl) (by simp) ?_
    intro m9 hm9
    obtain rfl := List.mem_singleton.1 hm9
    refine wpOp_of_list rfl ?_
    (repeat (first | simp only [List.getElem_toArray] | simp only [List.getElem_cons_succ] | simp only [List.getElem_cons_zero]))
    go_wp2_with (first
      | (go_at_call 16; refine (show Calls _ _ #[digV d, _, _] _ _ from Owns_any d HDl.out HDb.out n hn100 os a oA on oc wz.drew (HOz.out.drewN 1) (HGz.out.below (below_drawn (Below.refl _ _) 1))).mono ?_; rintro e w20 ⟨rfl, hb9⟩; have hS20 : Below wz.heap.size wz w20 := hS.trans hb9; have HS20q := aside hS20; clear hb9 hS20)
      | fail)
    change _ ∧ _
    refine ⟨HS20q.out, ?_⟩
    (try dsimp only)
    (repeat (first | simp only [List.getElem_toArray] | simp only [List.getElem_cons_succ] | simp only [List.getElem_cons_zero] | simp only [Act.put] | simp only [List.setIfInBounds_toArray] | simp only [List.set_cons_succ] | simp only [List.set_cons_zero]))
    refine wpAnyH_all (rs := [16]) (by kernel_rfl) (by simp) ?_
    intro m9 hm9
    obtain rfl := List.mem_singleton.1 hm9
    refine wpOp_of_list rfl ?_
    (repeat (first | simp only [List.getElem_toArray] | simp only [List.getElem_cons_succ] | simp only [List.getElem_cons_zero]))
    go_wp2_with (first
      | (go_at_call 13; refine (show Calls _ _ #[digV d, _] _ _ from qlocks_any d HDl.out HDb.out n hn100 w20 (HGz.out.below HS20q.out)).mono ?_; rintro e w21 ⟨A5, c5, ls5, rfl, hsl, hrs, hlp, hb9⟩; have HSl5 := aside hsl; have HRs5 := aside hrs; have HLp5 := aside hlp; have hS21 : Below wz.heap.size wz w21 := HS20q.out.trans (hb9.mono HS20q.out.size); have HS21q := aside hS21; clear hsl hrs hlp hb9 hS21)
      | fail)
    change _ ∧ _
    refine ⟨HS21q.out, ?_⟩
    (try dsimp only)
    (repeat (first | simp only [List.getElem_toArray] | simp only [List.getElem_cons_succ] | simp only [List.getElem_cons_zero] | simp only [Act.put] | simp only [List.setIfInBounds_toArray] | simp only [List.set_cons_succ] | simp only [List.set_cons_zero]))
    refine wpAnyH_all (rs := [18]) (by kernel_rfl) (by simp) ?_
    intro m9 hm9
    obtain rfl := List.mem_singleton.1 hm9
    refine wpOp_of_list rfl ?_
    (repeat (first | simp only [List.getElem_toArray] | simp only [List.getElem_cons_succ] | simp only [List.getElem_cons_zero]))
    have HOW := aside (qowner_any ls5 os a A5 oA n.toNat c5 on oc (by omega) w21 HSl5.out HRs5.out (locks_short HRs5.out HLp5.out) ((HOz.out.below HS21q.out).more HS21q.out.size))
    rw [HLp5.out] at HOW
    go_wp2_with (first
      | (go_at_call 17; refine HOW.out.mono ?_; rintro e w22 ⟨rfl, hb9⟩; have hS22 : Below wz.heap.size wz w22 := HS21q.out.trans (hb9.mono HS21q.out.size); have HS22q := aside hS22; clear hb9 hS22)
      | fail)
    change _ ∧ _
    refine ⟨HS22q.out, ?_⟩
    (try dsimp only)
    (repeat (first | simp only [List.getElem_toArray] | simp only [List.getElem_cons_succ] | simp only [List.getElem_cons_zero] | simp only [Act.put] | simp only [List.setIfInBounds_toArray] | simp only [List.set_cons_succ] | simp only [List.set_cons_zero]))
    generalize ownF ((List.range n.toNat).map (lockL d)) 0 (os.map ROp.pl) = z
    have hzz : (z == z) = true := by simp
    refine wpAnyH_take (i := 19) (v := ?_) rfl (by kernel_rfl) (by kernel_rfl) (by kernel_rfl) (fun _ _ _ h => h) (Or.inl ⟨by rfl, ?_⟩) HS22q.out ?_
    rotate_left
    · (intro W hSw; (try dsimp only at hSw); go_simp; try with_reducible rfl)
    (repeat (first | simp only [List.getElem_toArray] | simp only [List.getElem_cons_succ] | simp only [List.getElem_cons_zero] | simp only [Act.put] | simp only [List.setIfInBounds_toArray] | simp only [List.set_cons_succ] | simp only [List.set_cons_zero]))
    refine wpAnyH_take (i := 20) (v := ?_) rfl (by kernel_rfl) (by kernel_rfl) (by kernel_rfl) (fun _ _ _ h => h) (Or.inl ⟨by rfl, ?_⟩) HS22q.out ?_
    rotate_left
    · (intro W hSw; (try dsimp only at hSw); go_simp; try with_reducible rfl)
    (repeat (first | simp only [List.getElem_toArray] | simp only [List.getElem_cons_succ] | simp only [List.getElem_cons_zero] | simp only [Act.put] | simp only [List.setIfInBounds_toArray] | simp only [List.set_cons_succ] | simp only [List.set_cons_zero]))
    refine wpAnyH_take (i := 21) (v := ?_) rfl (by kernel_rfl) (by kernel_rfl) (by kernel_rfl) (fun _ _ _ h => h) (Or.inl ⟨by rfl, ?_⟩) HS22q.out ?_
    rotate_left
    · (intro W hSw; (try dsimp only at hSw); go_simp; try with_reducible rfl)
    (repeat (first | simp only [List.getElem_toArray] | simp only [List.getElem_cons_succ] | simp only [List.getElem_cons_zero] | simp only [Act.put] | simp only [List.setIfInBounds_toArray] | simp only [List.set_cons_succ] | simp only [List.set_cons_zero]))
    refine wpAnyH_take (i := 22) (v := ?_) rfl (by kernel_rfl) (by kernel_rfl) (by kernel_rfl) (fun _ _ _ h => h) (Or.inl ⟨by rfl, ?_⟩) HS22q.out ?_
    rotate_left
    · (intro W hSw; (try dsimp only at hSw); go_simp; try with_reducible rfl)
    (repeat (first | simp only [List.getElem_toArray] | simp only [List.getElem_cons_succ] | simp only [List.getElem_cons_zero] | simp only [Act.put] | simp only [List.setIfInBounds_toArray] | simp only [List.set_cons_succ] | simp only [List.set_cons_zero]))
    refine wpAnyH_done (by kernel_rfl) ?_ _
    go_wp2_with fail
    go_ret
    exact ⟨by simp, HBwZ.out.trans (HS22q.out.mono HBwZ.out.size)⟩
  obtain rfl := Classical.not_not.1 hq0
  clear hq0
  obtain ⟨hR, hn1, -, hm⟩ := bal_good (d := d) HQ.out
  rw [HL.out] at hm
  have HRa := aside hR
  have D08 : Hid (BlkY w8 B0 23 d) := aside (D0.out.below HB8.out l0)
  clear hR HQ
  go_wp2_with (first
    | (refine wpList_load_row rfl 23 (.tmp 5) rfl B0 rfl 23 (rowY d) (0, 0) _ D08.out Tryz.underlying23 rfl HS7.out ?_)
    | fail)
  refine (show Calls _ _ #[digV d, _] _ _ from qlocks_any d HDl.out HDb.out n hn100 w8 (HG.out.below HBw8.out)).mono ?_
  rintro e w9 ⟨A6, c6, ls6, rfl, hsl, hrs, hlp, hb9⟩
  have HSl6 := aside hsl
  have HRs6 := aside hrs
  have HLp6 := aside hlp
  have HB9 : Hid (Below w1.heap.size w1 w9) := aside (HB8.out.trans (hb9.mono HB8.out.size))
  have HBw9 : Hid (Below w.heap.size w w9) := aside (B1.out.trans (HB9.out.mono B1.out.size))
  clear hsl hrs hlp hb9 D08 HB8 HBw8
  go_wp2_with fail
  refine (qown_any ls6 cs A6 A n.toNat c6 m c (by omega) hm w9 HSl6.out HRs6.out (locks_short HRs6.out HLp6.out) ((H.out.below HBw9.out).more HBw9.out.size)).mono ?_
  rintro e w10 ⟨A7, m7, c7, hm7, rfl, hcs, hb9⟩
  have HC7 := aside hcs
  have HB10 : Hid (Below w1.heap.size w1 w10) := aside (HB9.out.trans (hb9.mono HB9.out.size))
  have HBw10 : Hid (Below w.heap.size w w10) := aside (B1.out.trans (HB10.out.mono B1.out.size))
  clear hcs hb9 HB9 HBw9
  have HWo := aside (rworth_any (cs.filter (keepC (ls6.map lkP))) A7 m7 c7 w10 HC7.out (by omega))
  rw [HLp6.out] at HWo
  obtain ⟨R, hR⟩ : ∃ R, R = addN ((cs.filter (keepC ((List.range n.toNat).map (lockL d)))).map (·.amt)) 0 := ⟨_, rfl⟩
  rw [← hR] at HWo HRa
  clear hR HSl6 HRs6 HLp6 HC7
  obtain ⟨S, E⟩ := R
  have HR := HRa
  clear HRa
  go_wp2_with fail
  refine HWo.out.mono ?_
  rintro e w11 ⟨rfl, hb9⟩
  have HB11 : Hid (Below w1.heap.size w1 w11) := aside (HB10.out.trans (hb9.mono HB10.out.size))
  have HBw11 : Hid (Below w.heap.size w w11) := aside (B1.out.trans (HB11.out.mono B1.out.size))
  clear hb9 HB10 HBw10 HWo
  dsimp only
  have HBX := HB11
  have HBwX := HBw11
  generalize w11 = wx at HBX HBwX ⊢
  have D0x : Hid (BlkY wx B0 23 d) := aside (D0.out.below HBX.out l0)
  have HBal := aside (balance_any d HDl.out HDb.out n cs A m c wx ((H.out.below HBwX.out).more HBwX.out.size) (HG.out.below HBwX.out))
  rw [HR.out] at HBal
  go_wp2_with (first
    | (refine wpList_load_row rfl 23 (.tmp 5) rfl B0 rfl 23 (rowY d) (0, 0) _ D0x.out Tryz.underlying23 rfl HS7.out ?_)
    | fail)
  refine (show Calls _ _ #[digV d, _, _] _ _ from HBal.out).mono ?_
  rintro e wy ⟨rfl, hb9⟩
  have HBY : Hid (Below w1.heap.size w1 wy) := aside (HBX.out.trans (hb9.mono HBX.out.size))
  have HBwY : Hid (Below w.heap.size w wy) := aside (B1.out.trans (HBY.out.mono B1.out.size))
  have HErr := aside (error_at (k := E) (j := E) (v := errP E) (w := wy) rfl (HEv.out.below (errVar_lt HEv.out) HBwY.out))
  clear hb9 HBal D0x HBX HBwX
  dsimp only
  go_wp2_with fail
  refine HErr.out.mono ?_
  rintro e wz ⟨rfl, hb9⟩
  have HBZ : Hid (Below w1.heap.size w1 wz) := aside (HBY.out.trans (hb9.mono HBY.out.size))
  have HBwZ : Hid (Below w.heap.size w wz) := aside (B1.out.trans (HBZ.out.mono B1.out.size))
  have hEE : (E == E) = true := by simp
  have hSS : (S == S) = true := by simp
  rw [hEE]
  clear hb9 HErr HBY HBwY
  have D0z : Hid (BlkY wz B0 23 d) := aside (D0.out.below HBZ.out l0)
  have D1z : Hid (wz.heap[B0 + 1]? = some (.cells #[.int .i64 a, .slice oA on oc] 27 (0, 0))) := aside ((HBZ.out.block _ l1).trans D1.out)
  have l0z := D0z.out.lt
  have l1z : B0 + 1 < wz.heap.size := (Array.getElem?_eq_some_iff.1 D1z.out).1
  have HGz := aside (HG.out.below HBwZ.out)
  have HOz := aside ((HO.out.below HBwZ.out).more HBwZ.out.size)
  go_upto_region 13 with fail
  refine wp_region_held_drew (S := (fun w' => Below wz.heap.size wz w')) (by kernel_rfl) (below_drawn (Below.refl _ _) 1) (fun hS => ?_)
  refine wpAnyH_take (i := 0) (v := ?_) rfl (by kernel_rfl) (by kernel_rfl) (by kernel_rfl) (fun _ _ _ h => h) (Or.inl ⟨by rfl, ?_⟩) hS ?_
  rotate_left
  · (intro W hSw; (try dsimp only at hSw); go_simp; try with_reducible rfl)
  (repeat (first | simp only [List.getElem_toArray] | simp only [List.getElem_cons_succ] | simp only [List.getElem_cons_zero] | simp only [Act.put] | simp only [List.setIfInBounds_toArray] | simp only [List.set_cons_succ] | simp only [List.set_cons_zero]))
  refine wpAnyH_take (i := 1) (v := ?_) rfl (by kernel_rfl) (by kernel_rfl) (by kernel_rfl) (fun _ _ _ h => h) (Or.inl ⟨by rfl, ?_⟩) hS ?_
  rotate_left
  · (intro W hSw; (try dsimp only at hSw); go_simp; try with_reducible rfl)
  (repeat (first | simp only [List.getElem_toArray] | simp only [List.getElem_cons_succ] | simp only [List.getElem_cons_zero] | simp only [Act.put] | simp only [List.setIfInBounds_toArray] | simp only [List.set_cons_succ] | simp only [List.set_cons_zero]))
  refine wpAnyH_take (i := 2) (v := ?_) rfl (by kernel_rfl) (by kernel_rfl) (by kernel_rfl) (fun _ _ _ h => h) (Or.inl ⟨by rfl, ?_⟩) hS ?_
  rotate_left
  · (intro W hSw; (try dsimp only at hSw); go_simp; try with_reducible rfl)
  (repeat (first | simp only [List.getElem_toArray] | simp only [List.getElem_cons_succ] | simp only [List.getElem_cons_zero] | simp only [Act.put] | simp only [List.setIfInBounds_toArray] | simp only [List.set_cons_succ] | simp only [List.set_cons_zero]))
  refine wpAnyH_take (i := 3) (v := ?_) rfl (by kernel_rfl) (by kernel_rfl) (by kernel_rfl) (fun _ _ _ h => h) (Or.inl ⟨by rfl, ?_⟩) hS ?_
  rotate_left
  · (intro W hSw; (try dsimp only at hSw); go_simp; try with_reducible rfl)
  (repeat (first | simp only [List.getElem_toArray] | simp only [List.getElem_cons_succ] | simp only [List.getElem_cons_zero] | simp only [Act.put] | simp only [List.setIfInBounds_toArray] | simp only [List.set_cons_succ] | simp only [List.set_cons_zero]))
  refine wpAnyH_take (i := 4) (v := ?_) rfl (by kernel_rfl) (by kernel_rfl) (by kernel_rfl) (fun _ _ _ h => h) (Or.inl ⟨by rfl, ?_⟩) hS ?_
  rotate_left
  · (intro W hSw; (try dsimp only at hSw); go_simp; try with_reducible rfl)
  (repeat (first | simp only [List.getElem_toArray] | simp only [List.getElem_cons_succ] | simp only [List.getElem_cons_zero] | simp only [Act.put] | simp only [List.setIfInBounds_toArray] | simp only [List.set_cons_succ] | simp only [List.set_cons_zero]))
  refine wpAnyH_take (i := 5) (v := ?_) rfl (by kernel_rfl) (by kernel_rfl) (by kernel_rfl) (fun _ _ _ h => h) (Or.inl ⟨by rfl, ?_⟩) hS ?_
  rotate_left
  · (intro W hSw; (try dsimp only at hSw); go_simp; try with_reducible rfl)
  (repeat (first | simp only [List.getElem_toArray] | simp only [List.getElem_cons_succ] | simp only [List.getElem_cons_zero] | simp only [Act.put] | simp only [List.setIfInBounds_toArray] | simp only [List.set_cons_succ] | simp only [List.set_cons_zero]))
  refine wpAnyH_take (i := 6) (v := ?_) rfl (by kernel_rfl) (by kernel_rfl) (by kernel_rfl) (fun _ _ _ h => h) (Or.inl ⟨by rfl, ?_⟩) hS ?_
  rotate_left
  · (intro W hSw; (try dsimp only at hSw); go_simp; try with_reducible rfl)
  (repeat (first | simp only [List.getElem_toArray] | simp only [List.getElem_cons_succ] | simp only [List.getElem_cons_zero] | simp only [Act.put] | simp only [List.setIfInBounds_toArray] | simp only [List.set_cons_succ] | simp only [List.set_cons_zero]))
  refine wpAnyH_take (i := 7) (v := ?_) rfl (by kernel_rfl) (by kernel_rfl) (by kernel_rfl) (fun _ _ _ h => h) (Or.inl ⟨by rfl, ?_⟩) hS ?_
  rotate_left
  · (intro W hSw; (try dsimp only at hSw); go_simp; try with_reducible rfl)
  (repeat (first | simp only [List.getElem_toArray] | simp only [List.getElem_cons_succ] | simp only [List.getElem_cons_zero] | simp only [Act.put] | simp only [List.setIfInBounds_toArray] | simp only [List.set_cons_succ] | simp only [List.set_cons_zero]))
  refine wpAnyH_take (i := 8) (v := ?_) rfl (by kernel_rfl) (by kernel_rfl) (by kernel_rfl) (fun _ _ _ h => h) (Or.inl ⟨by rfl, ?_⟩) hS ?_
  rotate_left
  · (intro W hSw; (try dsimp only at hSw); go_simp; try with_reducible rfl)
  (repeat (first | simp only [List.getElem_toArray] | simp only [List.getElem_cons_succ] | simp only [List.getElem_cons_zero] | simp only [Act.put] | simp only [List.setIfInBounds_toArray] | simp only [List.set_cons_succ] | simp only [List.set_cons_zero]))
  refine wpAnyH_take (i := 9) (v := ?_) rfl (by kernel_rfl) (by kernel_rfl) (by kernel_rfl) (fun _ _ _ h => h) (Or.inl ⟨by rfl, ?_⟩) hS ?_
  rotate_left
  · (intro W hSw; (try dsimp only at hSw); go_simp; try with_reducible rfl)
  (repeat (first | simp only [List.getElem_toArray] | simp only [List.getElem_cons_succ] | simp only [List.getElem_cons_zero] | simp only [Act.put] | simp only [List.setIfInBounds_toArray] | simp only [List.set_cons_succ] | simp only [List.set_cons_zero]))
  refine wpAnyH_take (i := 10) (v := _) rfl (by kernel_rfl) (by kernel_rfl) (by kernel_rfl) (fun _ _ _ h => h) (yieldsIf_load_mid (by rfl) _ _ rfl B0 0 rfl (u8s d) _ (fun W hW => (D0z.out.below hW l0z).range) Tryz.underlying23 rfl (by rw [u8s_len, HDl.out]; exact digInfo)) hS ?_
  (repeat (first | simp only [List.getElem_toArray] | simp only [List.getElem_cons_succ] | simp only [List.getElem_cons_zero] | simp only [Act.put] | simp only [List.setIfInBounds_toArray] | simp only [List.set_cons_succ] | simp only [List.set_cons_zero]))
  refine wpAnyH_take (i := 11) (v := ?_) rfl (by kernel_rfl) (by kernel_rfl) (by kernel_rfl) (fun _ _ _ h => h) (Or.inl ⟨by rfl, ?_⟩) hS ?_
  rotate_left
  · (intro W hSw; (try dsimp only at hSw); go_simp; try with_reducible rfl)
  (repeat (first | simp only [List.getElem_toArray] | simp only [List.getElem_cons_succ] | simp only [List.getElem_cons_zero] | simp only [Act.put] | simp only [List.setIfInBounds_toArray] | simp only [List.set_cons_succ] | simp only [List.set_cons_zero]))
  refine wpAnyH_take (i := 12) (v := _) rfl (by kernel_rfl) (by kernel_rfl) (by kernel_rfl) (fun _ _ _ h => h) (yieldsIf_load_mid (by rfl) _ _ rfl (B0 + 1) 0 rfl [.int .i64 a, .slice oA on oc] _ (fun W hW => row_range ((hW.block (B0 + 1) l1z).trans D1z.out)) Tryz.underlying27 rfl outInfo) hS ?_
  (repeat (first | simp only [List.getElem_toArray] | simp only [List.getElem_cons_succ] | simp only [List.getElem_cons_zero] | simp only [Act.put] | simp only [List.setIfInBounds_toArray] | simp only [List.set_cons_succ] | simp only [List.set_cons_zero]))
  refine wpAnyH_take (i := 14) (v := _) rfl (by kernel_rfl) (by kernel_rfl) (by kernel_rfl) (fun _ _ _ h => h) (yieldsIf_load_mid (by rfl) _ _ rfl B0 0 rfl (u8s d) _ (fun W hW => (D0z.out.below hW l0z).range) Tryz.underlying23 rfl (by rw [u8s_len, HDl.out]; exact digInfo)) hS ?_
  (repeat (first | simp only [List.getElem_toArray] | simp only [List.getElem_cons_succ] | simp only [List.getElem_cons_zero] | simp only [Act.put] | simp only [List.setIfInBounds_toArray] | simp only [List.set_cons_succ] | simp only [List.set_cons_zero]))
  refine wpAnyH_take (i := 15) (v := ?_) rfl (by kernel_rfl) (by kernel_rfl) (by kernel_rfl) (fun _ _ _ h => h) (Or.inl ⟨by rfl, ?_⟩) hS ?_
  rotate_left
  · (intro W hSw; (try dsimp only at hSw); go_simp; try with_reducible rfl)
  (repeat (first | simp only [List.getElem_toArray] | simp only [List.getElem_cons_succ] | simp only [List.getElem_cons_zero] | simp only [Act.put] | simp only [List.setIfInBounds_toArray] | simp only [List.set_cons_succ] | simp only [List.set_cons_zero]))
  refine wpAnyH_take (i := 17) (v := _) rfl (by kernel_rfl) (by kernel_rfl) (by kernel_rfl) (fun _ _ _ h => h) (yieldsIf_load_mid (by rfl) _ _ rfl (B0 + 1) 0 rfl [.int .i64 a, .slice oA on oc] _ (fun W hW => row_range ((hW.block (B0 + 1) l1z).trans D1z.out)) Tryz.underlying27 rfl outInfo) hS ?_
  (repeat (first | simp only [List.getElem_toArray] | simp only [List.getElem_cons_succ] | simp only [List.getElem_cons_zero] | simp only [Act.put] | simp only [List.setIfInBounds_toArray] | simp only [List.set_cons_succ] | simp only [List.set_cons_zero]))
  refine wpAnyH_all (rs := [13]) (by kernel_rfl) (by simp) ?_
  intro m9 hm9
  obtain rfl := List.mem_singleton.1 hm9
  refine wpOp_of_list rfl ?_
  (repeat (first | simp only [List.getElem_toArray] | simp only [List.getElem_cons_succ] | simp only [List.getElem_cons_zero]))
  go_wp2_with (first
    | (go_at_call 16; refine (show Calls _ _ #[digV d, _, _] _ _ from Owns_any d HDl.out HDb.out n hn100 os a oA on oc wz.drew (HOz.out.drewN 1) (HGz.out.below (below_drawn (Below.refl _ _) 1))).mono ?_; rintro e w20 ⟨rfl, hb9⟩; have hS20 : Below wz.heap.size wz w20 := hS.trans hb9; have HS20q := aside hS20; clear hb9 hS20)
    | fail)
  change _ ∧ _
  refine ⟨HS20q.out, ?_⟩
  (try dsimp only)
  (repeat (first | simp only [List.getElem_toArray] | simp only [List.getElem_cons_succ] | simp only [List.getElem_cons_zero] | simp only [Act.put] | simp only [List.setIfInBounds_toArray] | simp only [List.set_cons_succ] | simp only [List.set_cons_zero]))
  refine wpAnyH_all (rs := [16]) (by kernel_rfl) (by simp) ?_
  intro m9 hm9
  obtain rfl := List.mem_singleton.1 hm9
  refine wpOp_of_list rfl ?_
  (repeat (first | simp only [List.getElem_toArray] | simp only [List.getElem_cons_succ] | simp only [List.getElem_cons_zero]))
  go_wp2_with (first
    | (go_at_call 13; refine (show Calls _ _ #[digV d, _] _ _ from qlocks_any d HDl.out HDb.out n hn100 w20 (HGz.out.below HS20q.out)).mono ?_; rintro e w21 ⟨A5, c5, ls5, rfl, hsl, hrs, hlp, hb9⟩; have HSl5 := aside hsl; have HRs5 := aside hrs; have HLp5 := aside hlp; have hS21 : Below wz.heap.size wz w21 := HS20q.out.trans (hb9.mono HS20q.out.size); have HS21q := aside hS21; clear hsl hrs hlp hb9 hS21)
    | fail)
  change _ ∧ _
  refine ⟨HS21q.out, ?_⟩
  (try dsimp only)
  (repeat (first | simp only [List.getElem_toArray] | simp only [List.getElem_cons_succ] | simp only [List.getElem_cons_zero] | simp only [Act.put] | simp only [List.setIfInBounds_toArray] | simp only [List.set_cons_succ] | simp only [List.set_cons_zero]))
  refine wpAnyH_all (rs := [18]) (by kernel_rfl) (by simp) ?_
  intro m9 hm9
  obtain rfl := List.mem_singleton.1 hm9
  refine wpOp_of_list rfl ?_
  (repeat (first | simp only [List.getElem_toArray] | simp only [List.getElem_cons_succ] | simp only [List.getElem_cons_zero]))
  have HOW := aside (qowner_any ls5 os a A5 oA n.toNat c5 on oc (by omega) w21 HSl5.out HRs5.out (locks_short HRs5.out HLp5.out) ((HOz.out.below HS21q.out).more HS21q.out.size))
  rw [HLp5.out] at HOW
  go_wp2_with (first
    | (go_at_call 17; refine HOW.out.mono ?_; rintro e w22 ⟨rfl, hb9⟩; have hS22 : Below wz.heap.size wz w22 := HS21q.out.trans (hb9.mono HS21q.out.size); have HS22q := aside hS22; clear hb9 hS22)
    | fail)
  change _ ∧ _
  refine ⟨HS22q.out, ?_⟩
  (try dsimp only)
  (repeat (first | simp only [List.getElem_toArray] | simp only [List.getElem_cons_succ] | simp only [List.getElem_cons_zero] | simp only [Act.put] | simp only [List.setIfInBounds_toArray] | simp only [List.set_cons_succ] | simp only [List.set_cons_zero]))
  generalize ownF ((List.range n.toNat).map (lockL d)) 0 (os.map ROp.pl) = z
  have hzz : (z == z) = true := by simp
  refine wpAnyH_take (i := 19) (v := ?_) rfl (by kernel_rfl) (by kernel_rfl) (by kernel_rfl) (fun _ _ _ h => h) (Or.inl ⟨by rfl, ?_⟩) HS22q.out ?_
  rotate_left
  · (intro W hSw; (try dsimp only at hSw); go_simp; try with_reducible rfl)
  (repeat (first | simp only [List.getElem_toArray] | simp only [List.getElem_cons_succ] | simp only [List.getElem_cons_zero] | simp only [Act.put] | simp only [List.setIfInBounds_toArray] | simp only [List.set_cons_succ] | simp only [List.set_cons_zero]))
  refine wpAnyH_take (i := 20) (v := ?_) rfl (by kernel_rfl) (by kernel_rfl) (by kernel_rfl) (fun _ _ _ h => h) (Or.inl ⟨by rfl, ?_⟩) HS22q.out ?_
  rotate_left
  · (intro W hSw; (try dsimp only at hSw); go_simp; try with_reducible rfl)
  (repeat (first | simp only [List.getElem_toArray] | simp only [List.getElem_cons_succ] | simp only [List.getElem_cons_zero] | simp only [Act.put] | simp only [List.setIfInBounds_toArray] | simp only [List.set_cons_succ] | simp only [List.set_cons_zero]))
  refine wpAnyH_take (i := 21) (v := ?_) rfl (by kernel_rfl) (by kernel_rfl) (by kernel_rfl) (fun _ _ _ h => h) (Or.inl ⟨by rfl, ?_⟩) HS22q.out ?_
  rotate_left
  · (intro W hSw; (try dsimp only at hSw); go_simp; try with_reducible rfl)
  (repeat (first | simp only [List.getElem_toArray] | simp only [List.getElem_cons_succ] | simp only [List.getElem_cons_zero] | simp only [Act.put] | simp only [List.setIfInBounds_toArray] | simp only [List.set_cons_succ] | simp only [List.set_cons_zero]))
  refine wpAnyH_take (i := 22) (v := ?_) rfl (by kernel_rfl) (by kernel_rfl) (by kernel_rfl) (fun _ _ _ h => h) (Or.inl ⟨by rfl, ?_⟩) HS22q.out ?_
  rotate_left
  · (intro W hSw; (try dsimp only at hSw); go_simp; try with_reducible rfl)
  (repeat (first | simp only [List.getElem_toArray] | simp only [List.getElem_cons_succ] | simp only [List.getElem_cons_zero] | simp only [Act.put] | simp only [List.setIfInBounds_toArray] | simp only [List.set_cons_succ] | simp only [List.set_cons_zero]))
  refine wpAnyH_done (by kernel_rfl) ?_ _
  go_wp2_with fail
  go_ret
  exact ⟨by simp, HBwZ.out.trans (HS22q.out.mono HBwZ.out.size)⟩
end Go.Proofs.YtmhekoalhlfjoaaGreatDoor
