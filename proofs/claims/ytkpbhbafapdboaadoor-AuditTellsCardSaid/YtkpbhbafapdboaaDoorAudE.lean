/- That of somebody: audit.Leaf: the walk. Conditions: named in each theorem. -/
import Derived.Test.YtkpbhbafapdboaaDoorAudD
namespace Go.Proofs.YtkpbhbafapdboaaDoor
open Go.RowKit Go.ChangeShapes Go.WideShapes Go.ChangeAt

theorem YSl.one25 (w : World) : YSl (w.alloc (.cells #[.int .u8 25] 5)) (w.alloc (.cells #[.int .u8 25] 5)).heap.size (some ⟨w.heap.size, 0, none⟩) 1 [25] := YSl.one w 25
theorem parts3 (X : World) (vb : Nat) (hvb : vb = X.heap.size) (p1 p2 p3 : Part) (T : TypeId) (h1 : YSl X X.heap.size p1.A p1.n p1.bs) (h2 : YSl X X.heap.size p2.A p2.n p2.bs) (h3 : YSl X X.heap.size p3.A p3.n p3.bs) :
    PartsAt (X.alloc (.cells #[partV p1, partV p2, partV p3] T)) vb [p1, p2, p3] := by
  subst hvb
  exact parts_new X [p1, p2, p3] T (by
    intro p hp
    simp only [List.mem_cons, List.not_mem_nil, or_false] at hp
    rcases hp with rfl | rfl | rfl <;> assumption)
theorem leafT_parts (nm : List Nat) (n : Nat) (A1 A2 A3 : Option Addr) (n1 n2 n3 c1 c2 c3 : Nat) : allP [⟨A1, n1, c1, [25]⟩, ⟨A2, n2, c2, nm⟩, ⟨A3, n3, c3, sizeL n⟩] = leafT nm n := by
  simp [allP, leafT]
theorem leafT_small {nm : List Nat} {n : Nat} (hx : Dig nm) : ∀ z ∈ leafT nm n, z < 256 := by
  intro z hz
  simp only [leafT, List.mem_append, List.mem_singleton] at hz
  rcases hz with (rfl | hz) | hz
  · decide
  · exact hx.2 z hz
  · exact sizeL_small _ z hz
theorem leafT_len {nm : List Nat} {n : Nat} (hx : Dig nm) : 1 ≤ (leafT nm n).length ∧ (leafT nm n).length ≤ 1000000 := by
  have h1 := sizeL_len n
  simp only [leafT, List.length_append, List.length_singleton, hx.1]
  omega
/-- A digest in memory. -/
def DigAt (w : World) (g : Nat) (d : List Nat) : Prop := w.heap[g]? = some (.cells (rowY d) 23 (0, 0))
theorem DigAt.lt {w : World} {g : Nat} {d : List Nat} (h : DigAt w g d) : g < w.heap.size := (Array.getElem?_eq_some_iff.1 h).1
theorem DigAt.dig {w : World} {g : Nat} {d : List Nat} (h : DigAt w g d) (hd : d.length = 32) : YSl w w.heap.size (some ⟨g, 0, none⟩) 32 d := by
  refine YSl.of hd h.lt fun k hk => ?_
  rw [cell_of_row w g (0 + k) _ _ _ h]
  unfold rowY
  rw [List.getElem?_toArray, Nat.zero_add, List.getElem?_map, List.getD_eq_getElem?_getD, List.getElem?_eq_getElem (by omega)]
  rfl
set_option maxRecDepth 100000 in
/-- A total is made of its parts, at a step of a region that draws. -/
theorem wp_tot {o : Oper} {a : Act} {w : World} {K : Act → World → Prop} {Q : Exit → Act → World → Prop} (x y : Operand) (ho : o.op = .build 25 #[(0, x), (1, y)])
    (s : Int) (d : List Nat) (hx : a.eval x = .int .i64 s) (hy : a.eval y = digV d) (hd : d.length = 32) (h : K (a.put o.dst (totV s d)) w) : o.wp Tryd.prog a w K Q := by
  have hb : Tryd.prog.built 25 ((#[(0, x), (1, y)] : Array (Nat × Operand)).map fun (i, x) => (i, a.eval x)).toList = some (totR s d) := by
    simp only [List.map_toArray, List.map_cons, List.map_nil, hx, hy]
    exact built_tot s d hd
  refine wp_build 25 #[(0, x), (1, y)] ho (by rw [hb]; rfl) ?_
  rw [hb]
  exact h

set_option maxHeartbeats 4000000 in
set_option maxRecDepth 100000 in
theorem leaf_ok (nm : List Nat) (n : Nat) (hd : Dig nm) (hn : n ≤ 1125899906842624) (w : World) (hg : RoundsAt w) :
    Calls Tryd.prog 14 #[digV nm, .int .i64 n] w (fun e w' => e = .returned (tellV ((n, shaL (leafT nm n)), 0)) ∧ Below w.heap.size w w') := by
  show Calls _ _ _ _ (fun e w' => e = .returned (.tuple #[totV n (shaL (leafT nm n)), .nilIface]) ∧ Below w.heap.size w w')
  have hM : Mny (n : Int) := ⟨by omega, by omega⟩
  have HM := aside hM
  have HD := aside hd
  have HG := aside hg
  clear hM hd hg
  go_enter Tryd.func14, Tryd.ntmps14
  go_upto_region 1 with fail
  change Code.wp _ _ _ _ ((w.alloc (.cells (rowY nm) 23)).alloc (.cells (totR 0 zeroD) 25))
  have T0 : Hid (DigAt ((w.alloc (.cells (rowY nm) 23)).alloc (.cells (totR 0 zeroD) 25)) w.heap.size nm) := aside ((heap_alloc_old _ _ (by simp)).trans (heap_alloc_new _ _))
  have T2 : Hid (TotAt ((w.alloc (.cells (rowY nm) 23)).alloc (.cells (totR 0 zeroD) 25)) (w.heap.size + 1) 0 zeroD) := aside (by
    have h := TotAt.new (w.alloc (.cells (rowY nm) 23)) 0 zeroD
    rwa [show (w.alloc (.cells (rowY nm) 23)).heap.size = w.heap.size + 1 by simp] at h)
  have B1 : Hid (Below w.heap.size w ((w.alloc (.cells (rowY nm) 23)).alloc (.cells (totR 0 zeroD) 25))) := aside (((Below.refl _ _).alloc (Nat.le_refl _) _).alloc (by simp) _)
  have Z1 : Hid (((w.alloc (.cells (rowY nm) 23)).alloc (.cells (totR 0 zeroD) 25)).heap.size = w.heap.size + 1 + 1) := aside (by simp)
  generalize ((w.alloc (.cells (rowY nm) 23)).alloc (.cells (totR 0 zeroD) 25)) = w1 at T0 T2 B1 Z1 ⊢
  obtain ⟨N, hN⟩ : ∃ N, N = w.heap.size := ⟨_, rfl⟩
  have EN := aside hN
  simp only [← hN] at T0 T2 Z1 ⊢
  clear hN
  go_upto_region 4 with (first
    | (go_at_call 24; refine (check_ok n HM.out _).mono ?_; rintro e w' ⟨rfl, hw'⟩; rw [hw']; clear hw' w')
    | fail)
  have y0 : YSl w1 w1.heap.size (some ⟨N, 0, none⟩) 32 nm := T0.out.dig HD.out.1
  have HD0 : YSl w1.drew w1.drew.heap.size (some ⟨N, 0, none⟩) 32 nm := FSl.drewN y0 1
  have HDA0 : YSl (w1.alloc (.cells #[.int .u8 25] 5)).drew (w1.alloc (.cells #[.int .u8 25] 5)).drew.heap.size (some ⟨N, 0, none⟩) 32 nm := FSl.drewN (y0.behind _) 1
  have H25A : YSl (w1.alloc (.cells #[.int .u8 25] 5)).drew (w1.alloc (.cells #[.int .u8 25] 5)).drew.heap.size (some ⟨w1.heap.size, 0, none⟩) 1 [25] := FSl.drewN (YSl.one w1 25) 1
  have hB0 : Below w1.heap.size w1 w1.drew := below_drawn (Below.refl _ _) 1
  have hBA : Below w1.heap.size w1 (w1.alloc (.cells #[.int .u8 25] 5)).drew := below_drawn (below_more (Below.refl _ _) _) 1
  have HL := aside (leafT_len (n := n) HD.out)
  have HG1 : Hid (RoundsAt w1) := aside (HG.out.below B1.out)
  have HSm : Hid (∀ z ∈ leafT nm n, z < 256) := aside (leafT_small HD.out)
  clear y0
  refine wp_region_noPanic ?_
  refine wp_region_held_drew (S := (fun w' => Below w1.heap.size w1 w' ∨ Below w.heap.size w w')) (by kernel_rfl) (Or.inl hB0) (fun hS => ?_)
  have hHeld := hB0
  refine wpAnyH_take (i := 0) (v := ?_) rfl (by kernel_rfl) (by kernel_rfl) (by kernel_rfl) (fun _ _ _ h => h) (Or.inl ⟨by rfl, ?_⟩) hS ?_
  rotate_left
  · (intro w hSw; (try dsimp only at hSw); go_simp; try with_reducible rfl)
  (repeat (first | simp only [List.getElem_toArray] | simp only [List.getElem_cons_succ] | simp only [List.getElem_cons_zero] | simp only [Act.put] | simp only [List.setIfInBounds_toArray] | simp only [List.set_cons_succ] | simp only [List.set_cons_zero]))
  refine wpAnyH_take (i := 2) (v := ?_) rfl (by kernel_rfl) (by kernel_rfl) (by kernel_rfl) (fun _ _ _ h => h) (Or.inl ⟨by rfl, ?_⟩) hS ?_
  rotate_left
  · (intro w hSw; (try dsimp only at hSw); go_simp; try with_reducible rfl)
  (repeat (first | simp only [List.getElem_toArray] | simp only [List.getElem_cons_succ] | simp only [List.getElem_cons_zero] | simp only [Act.put] | simp only [List.setIfInBounds_toArray] | simp only [List.set_cons_succ] | simp only [List.set_cons_zero]))
  refine wpAnyH_take (i := 3) (v := ?_) rfl (by kernel_rfl) (by kernel_rfl) (by kernel_rfl) (fun _ _ _ h => h) (Or.inl ⟨by rfl, ?_⟩) hS ?_
  rotate_left
  · (intro w hSw; (try dsimp only at hSw); go_simp; try with_reducible rfl)
  (repeat (first | simp only [List.getElem_toArray] | simp only [List.getElem_cons_succ] | simp only [List.getElem_cons_zero] | simp only [Act.put] | simp only [List.setIfInBounds_toArray] | simp only [List.set_cons_succ] | simp only [List.set_cons_zero]))
  refine wpAnyH_ready (rs := [1, 4]) (by kernel_rfl) (by simp) ?_
  refine AllReadyH.cons rfl (fun K hK => ?_) (AllReadyH.cons rfl (fun K hK => ?_) (AllReadyH.nil))
  · skip
    go_simp
    refine (fun hHeld => hK.out _ _ (Or.inl hHeld) (fun hS => ?_)) (by first | with_reducible exact hBA | with_reducible exact below_more hHeld _)
    clear hK K
    (repeat (first | simp only [List.getElem_toArray] | simp only [List.getElem_cons_succ] | simp only [List.getElem_cons_zero] | simp only [Act.put] | simp only [List.setIfInBounds_toArray] | simp only [List.set_cons_succ] | simp only [List.set_cons_zero]))
    refine wpAnyH_ready (rs := [4]) (by kernel_rfl) (by simp) ?_
    refine AllReadyH.cons rfl (fun K hK => ?_) (AllReadyH.nil)
    go_simp
    go_at_call 33
    refine (size_any n hn _).mono ?_
    rintro e wa ⟨Ga, ma, ca, rfl, HYa, HSa⟩
    have hBa := below_then hHeld HSa
    go_wp2_with fail
    refine (fun hHeld => hK.out _ _ (Or.inl hHeld) (fun hS => ?_)) hBa
    clear hK K
    (repeat (first | simp only [List.getElem_toArray] | simp only [List.getElem_cons_succ] | simp only [List.getElem_cons_zero] | simp only [Act.put] | simp only [List.setIfInBounds_toArray] | simp only [List.set_cons_succ] | simp only [List.set_cons_zero]))
    refine wpAnyH_ready (rs := [5]) (by kernel_rfl) (by simp) ?_
    refine AllReadyH.cons rfl (fun K hK => ?_) (AllReadyH.nil)
    go_simp
    refine (fun hHeld => hK.out _ _ (Or.inl hHeld) (fun hS => ?_)) (below_more hHeld _)
    clear hK K
    (repeat (first | simp only [List.getElem_toArray] | simp only [List.getElem_cons_succ] | simp only [List.getElem_cons_zero] | simp only [Act.put] | simp only [List.setIfInBounds_toArray] | simp only [List.set_cons_succ] | simp only [List.set_cons_zero]))
    refine wpAnyH_ready (rs := [6]) (by kernel_rfl) (by simp) ?_
    refine AllReadyH.cons rfl (fun K hK => ?_) (AllReadyH.nil)
    go_simp
    go_at_call 32
    refine (concat_any [⟨some ⟨_, 0, none⟩, 1, 1, [25]⟩, ⟨some ⟨N, 0, none⟩, 32, 32, nm⟩, ⟨Ga, ma, ca, sizeL n⟩] 3 _ rfl _ (by simp) (parts3 _ _ (by simp) _ _ _ _ (by repeat' (first | with_reducible exact HYa | with_reducible exact HD0 | with_reducible exact HDA0 | with_reducible exact H25A | with_reducible exact YSl.one25 _ | with_reducible refine YSl.behind ?_ _ | with_reducible refine YSl.step ?_ HSa)) (by repeat' (first | with_reducible exact HYa | with_reducible exact HD0 | with_reducible exact HDA0 | with_reducible exact H25A | with_reducible exact YSl.one25 _ | with_reducible refine YSl.behind ?_ _ | with_reducible refine YSl.step ?_ HSa)) (by repeat' (first | with_reducible exact HYa | with_reducible exact HD0 | with_reducible exact HDA0 | with_reducible exact H25A | with_reducible exact YSl.one25 _ | with_reducible refine YSl.behind ?_ _ | with_reducible refine YSl.step ?_ HSa))) (by rw [leafT_parts]; exact HL.out.1) (by rw [leafT_parts]; exact HL.out.2) (by decide)).mono ?_
    rintro e wc ⟨Gc, mc, cc, rfl, hyc, hbc⟩
    have HYc : Hid (YSl wc wc.heap.size Gc mc (leafT nm n)) := aside (by have h := hyc; rw [leafT_parts] at h; exact h)
    have hBc := below_then hHeld hbc
    clear hyc hbc
    go_wp2_with fail
    refine (fun hHeld => hK.out _ _ (Or.inl hHeld) (fun hS => ?_)) hBc
    clear hK K
    (repeat (first | simp only [List.getElem_toArray] | simp only [List.getElem_cons_succ] | simp only [List.getElem_cons_zero] | simp only [Act.put] | simp only [List.setIfInBounds_toArray] | simp only [List.set_cons_succ] | simp only [List.set_cons_zero]))
    refine wpAnyH_ready (rs := [7]) (by kernel_rfl) (by simp) ?_
    refine AllReadyH.cons rfl (fun K hK => ?_) (AllReadyH.nil)
    have HLm := YSl.len1 HYc.out
    go_simp
    go_at_call 31
    refine (sha_any (leafT nm n) Gc mc cc wc HYc.out (by rw [← HLm]; exact HL.out.2) HSm.out (HG1.out.below hHeld)).mono ?_
    rintro e wd ⟨rfl, hbd⟩
    have hBd := below_then hHeld hbd
    clear hbd
    go_wp2_with fail
    refine (fun hHeld => hK.out _ _ (Or.inl hHeld) (fun hS => ?_)) hBd
    clear hK K
    (repeat (first | simp only [List.getElem_toArray] | simp only [List.getElem_cons_succ] | simp only [List.getElem_cons_zero] | simp only [Act.put] | simp only [List.setIfInBounds_toArray] | simp only [List.set_cons_succ] | simp only [List.set_cons_zero]))
    refine wpAnyH_ready (rs := [8]) (by kernel_rfl) (by simp) ?_
    refine AllReadyH.cons rfl (fun K hK => ?_) (AllReadyH.nil)
    rw [if_pos (by rfl)]
    refine wp_tot (.tmp 13) (.tmp 20) rfl n (shaL (leafT nm n)) rfl rfl (shaL_len _) ?_
    refine (fun hHeld => hK.out _ _ (Or.inl hHeld) (fun hS => ?_)) hHeld
    clear hK K
    (repeat (first | simp only [List.getElem_toArray] | simp only [List.getElem_cons_succ] | simp only [List.getElem_cons_zero] | simp only [Act.put] | simp only [List.setIfInBounds_toArray] | simp only [List.set_cons_succ] | simp only [List.set_cons_zero]))
    refine wpAnyH_ready (rs := [9]) (by kernel_rfl) (by simp) ?_
    refine AllReadyH.cons rfl (fun K hK => ?_) (AllReadyH.nil)
    have T2d := T2.out.below hHeld T2.out.lt
    rw [if_pos (by rfl)]
    refine wp_store_row 25 (.tmp 4) (.tmp 21) rfl (N + 1) (totR n (shaL (leafT nm n))) rfl rfl 25 (totR 0 zeroD) T2d (totInfo (shaL_len _)) (tot_same rfl (shaL_len _)) (totR_one _ _) ?_
    have T3 : Hid (TotAt (wd.setRow (N + 1) (totR n (shaL (leafT nm n)))) (N + 1) n (shaL (leafT nm n))) := aside (setRow_heap wd (N + 1) _ _ _ _ T2d)
    have HB9 : Hid (Below w.heap.size w (wd.setRow (N + 1) (totR n (shaL (leafT nm n))))) := aside (below_setRow (B1.out.trans (hHeld.mono B1.out.size)) _ (by rw [EN.out]; omega) _)
    generalize wd.setRow (N + 1) (totR n (shaL (leafT nm n))) = we at T3 HB9 ⊢
    refine hK.out _ _ (Or.inr HB9.out) (fun hS => ?_)
    clear hK K
    (repeat (first | simp only [List.getElem_toArray] | simp only [List.getElem_cons_succ] | simp only [List.getElem_cons_zero] | simp only [Act.put] | simp only [List.setIfInBounds_toArray] | simp only [List.set_cons_succ] | simp only [List.set_cons_zero]))
    refine wpAnyH_take (i := 10) (v := ?_) rfl (by kernel_rfl) (by kernel_rfl) (by kernel_rfl) (fun _ _ _ h => h) (Or.inl ⟨by rfl, ?_⟩) hS ?_
    rotate_left
    · (intro w hSw; (try dsimp only at hSw); go_simp; try with_reducible rfl)
    (repeat (first | simp only [List.getElem_toArray] | simp only [List.getElem_cons_succ] | simp only [List.getElem_cons_zero] | simp only [Act.put] | simp only [List.setIfInBounds_toArray] | simp only [List.set_cons_succ] | simp only [List.set_cons_zero]))
    (repeat (first | simp only [List.getElem_toArray] | simp only [List.getElem_cons_succ] | simp only [List.getElem_cons_zero] | simp only [Act.put] | simp only [List.setIfInBounds_toArray] | simp only [List.set_cons_succ] | simp only [List.set_cons_zero]))
    refine wpAnyH_done (by kernel_rfl) ?_ _
    refine NoPanic.normal ?_
    go_wp2_with fail
    refine bodyPost_ret (results_cell_tmp rfl _ _ (N + 1) 25 (totR n (shaL (leafT nm n))) (0, 0) _ rfl T3.out Tryd.underlying25 rfl (totInfo (shaL_len _))) rfl ?_
    exact ⟨rfl, HB9.out⟩
  · skip
    go_simp
    go_at_call 33
    refine (size_any n hn _).mono ?_
    rintro e wa ⟨Ga, ma, ca, rfl, HYa, HSa⟩
    have hBa := below_then hHeld HSa
    go_wp2_with fail
    refine (fun hHeld => hK.out _ _ (Or.inl hHeld) (fun hS => ?_)) hBa
    clear hK K
    (repeat (first | simp only [List.getElem_toArray] | simp only [List.getElem_cons_succ] | simp only [List.getElem_cons_zero] | simp only [Act.put] | simp only [List.setIfInBounds_toArray] | simp only [List.set_cons_succ] | simp only [List.set_cons_zero]))
    refine wpAnyH_ready (rs := [1]) (by kernel_rfl) (by simp) ?_
    refine AllReadyH.cons rfl (fun K hK => ?_) (AllReadyH.nil)
    go_simp
    refine (fun hHeld => hK.out _ _ (Or.inl hHeld) (fun hS => ?_)) (by first | with_reducible exact hBA | with_reducible exact below_more hHeld _)
    clear hK K
    (repeat (first | simp only [List.getElem_toArray] | simp only [List.getElem_cons_succ] | simp only [List.getElem_cons_zero] | simp only [Act.put] | simp only [List.setIfInBounds_toArray] | simp only [List.set_cons_succ] | simp only [List.set_cons_zero]))
    refine wpAnyH_ready (rs := [5]) (by kernel_rfl) (by simp) ?_
    refine AllReadyH.cons rfl (fun K hK => ?_) (AllReadyH.nil)
    go_simp
    refine (fun hHeld => hK.out _ _ (Or.inl hHeld) (fun hS => ?_)) (below_more hHeld _)
    clear hK K
    (repeat (first | simp only [List.getElem_toArray] | simp only [List.getElem_cons_succ] | simp only [List.getElem_cons_zero] | simp only [Act.put] | simp only [List.setIfInBounds_toArray] | simp only [List.set_cons_succ] | simp only [List.set_cons_zero]))
    refine wpAnyH_ready (rs := [6]) (by kernel_rfl) (by simp) ?_
    refine AllReadyH.cons rfl (fun K hK => ?_) (AllReadyH.nil)
    go_simp
    go_at_call 32
    refine (concat_any [⟨some ⟨_, 0, none⟩, 1, 1, [25]⟩, ⟨some ⟨N, 0, none⟩, 32, 32, nm⟩, ⟨Ga, ma, ca, sizeL n⟩] 3 _ rfl _ (by simp) (parts3 _ _ (by simp) _ _ _ _ (by repeat' (first | with_reducible exact HYa | with_reducible exact HD0 | with_reducible exact HDA0 | with_reducible exact H25A | with_reducible exact YSl.one25 _ | with_reducible refine YSl.behind ?_ _ | with_reducible refine YSl.step ?_ HSa)) (by repeat' (first | with_reducible exact HYa | with_reducible exact HD0 | with_reducible exact HDA0 | with_reducible exact H25A | with_reducible exact YSl.one25 _ | with_reducible refine YSl.behind ?_ _ | with_reducible refine YSl.step ?_ HSa)) (by repeat' (first | with_reducible exact HYa | with_reducible exact HD0 | with_reducible exact HDA0 | with_reducible exact H25A | with_reducible exact YSl.one25 _ | with_reducible refine YSl.behind ?_ _ | with_reducible refine YSl.step ?_ HSa))) (by rw [leafT_parts]; exact HL.out.1) (by rw [leafT_parts]; exact HL.out.2) (by decide)).mono ?_
    rintro e wc ⟨Gc, mc, cc, rfl, hyc, hbc⟩
    have HYc : Hid (YSl wc wc.heap.size Gc mc (leafT nm n)) := aside (by have h := hyc; rw [leafT_parts] at h; exact h)
    have hBc := below_then hHeld hbc
    clear hyc hbc
    go_wp2_with fail
    refine (fun hHeld => hK.out _ _ (Or.inl hHeld) (fun hS => ?_)) hBc
    clear hK K
    (repeat (first | simp only [List.getElem_toArray] | simp only [List.getElem_cons_succ] | simp only [List.getElem_cons_zero] | simp only [Act.put] | simp only [List.setIfInBounds_toArray] | simp only [List.set_cons_succ] | simp only [List.set_cons_zero]))
    refine wpAnyH_ready (rs := [7]) (by kernel_rfl) (by simp) ?_
    refine AllReadyH.cons rfl (fun K hK => ?_) (AllReadyH.nil)
    have HLm := YSl.len1 HYc.out
    go_simp
    go_at_call 31
    refine (sha_any (leafT nm n) Gc mc cc wc HYc.out (by rw [← HLm]; exact HL.out.2) HSm.out (HG1.out.below hHeld)).mono ?_
    rintro e wd ⟨rfl, hbd⟩
    have hBd := below_then hHeld hbd
    clear hbd
    go_wp2_with fail
    refine (fun hHeld => hK.out _ _ (Or.inl hHeld) (fun hS => ?_)) hBd
    clear hK K
    (repeat (first | simp only [List.getElem_toArray] | simp only [List.getElem_cons_succ] | simp only [List.getElem_cons_zero] | simp only [Act.put] | simp only [List.setIfInBounds_toArray] | simp only [List.set_cons_succ] | simp only [List.set_cons_zero]))
    refine wpAnyH_ready (rs := [8]) (by kernel_rfl) (by simp) ?_
    refine AllReadyH.cons rfl (fun K hK => ?_) (AllReadyH.nil)
    rw [if_pos (by rfl)]
    refine wp_tot (.tmp 13) (.tmp 20) rfl n (shaL (leafT nm n)) rfl rfl (shaL_len _) ?_
    refine (fun hHeld => hK.out _ _ (Or.inl hHeld) (fun hS => ?_)) hHeld
    clear hK K
    (repeat (first | simp only [List.getElem_toArray] | simp only [List.getElem_cons_succ] | simp only [List.getElem_cons_zero] | simp only [Act.put] | simp only [List.setIfInBounds_toArray] | simp only [List.set_cons_succ] | simp only [List.set_cons_zero]))
    refine wpAnyH_ready (rs := [9]) (by kernel_rfl) (by simp) ?_
    refine AllReadyH.cons rfl (fun K hK => ?_) (AllReadyH.nil)
    have T2d := T2.out.below hHeld T2.out.lt
    rw [if_pos (by rfl)]
    refine wp_store_row 25 (.tmp 4) (.tmp 21) rfl (N + 1) (totR n (shaL (leafT nm n))) rfl rfl 25 (totR 0 zeroD) T2d (totInfo (shaL_len _)) (tot_same rfl (shaL_len _)) (totR_one _ _) ?_
    have T3 : Hid (TotAt (wd.setRow (N + 1) (totR n (shaL (leafT nm n)))) (N + 1) n (shaL (leafT nm n))) := aside (setRow_heap wd (N + 1) _ _ _ _ T2d)
    have HB9 : Hid (Below w.heap.size w (wd.setRow (N + 1) (totR n (shaL (leafT nm n))))) := aside (below_setRow (B1.out.trans (hHeld.mono B1.out.size)) _ (by rw [EN.out]; omega) _)
    generalize wd.setRow (N + 1) (totR n (shaL (leafT nm n))) = we at T3 HB9 ⊢
    refine hK.out _ _ (Or.inr HB9.out) (fun hS => ?_)
    clear hK K
    (repeat (first | simp only [List.getElem_toArray] | simp only [List.getElem_cons_succ] | simp only [List.getElem_cons_zero] | simp only [Act.put] | simp only [List.setIfInBounds_toArray] | simp only [List.set_cons_succ] | simp only [List.set_cons_zero]))
    refine wpAnyH_take (i := 10) (v := ?_) rfl (by kernel_rfl) (by kernel_rfl) (by kernel_rfl) (fun _ _ _ h => h) (Or.inl ⟨by rfl, ?_⟩) hS ?_
    rotate_left
    · (intro w hSw; (try dsimp only at hSw); go_simp; try with_reducible rfl)
    (repeat (first | simp only [List.getElem_toArray] | simp only [List.getElem_cons_succ] | simp only [List.getElem_cons_zero] | simp only [Act.put] | simp only [List.setIfInBounds_toArray] | simp only [List.set_cons_succ] | simp only [List.set_cons_zero]))
    (repeat (first | simp only [List.getElem_toArray] | simp only [List.getElem_cons_succ] | simp only [List.getElem_cons_zero] | simp only [Act.put] | simp only [List.setIfInBounds_toArray] | simp only [List.set_cons_succ] | simp only [List.set_cons_zero]))
    refine wpAnyH_done (by kernel_rfl) ?_ _
    refine NoPanic.normal ?_
    go_wp2_with fail
    refine bodyPost_ret (results_cell_tmp rfl _ _ (N + 1) 25 (totR n (shaL (leafT nm n))) (0, 0) _ rfl T3.out Tryd.underlying25 rfl (totInfo (shaL_len _))) rfl ?_
    exact ⟨rfl, HB9.out⟩
end Go.Proofs.YtkpbhbafapdboaaDoor
