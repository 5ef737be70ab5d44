/- What is wrong with a path, told exactly; two lists that are the same: the walks. Conditions: named in each theorem. -/
import Derived.Test.YtkpbhbafapdboaaDoorTelB
namespace Go.Proofs.YtkpbhbafapdboaaDoor
open Go.RowKit Go.ChangeShapes Go.WideShapes Go.ChangeAt

/-- The number of what is wrong with a path. -/
def pathQ (r : Int) : Int := if r ≠ 0 then r else 2
set_option maxHeartbeats 2000000 in
set_option maxRecDepth 100000 in
theorem path_bad2 (ts : List Tot) (hd : ∀ t ∈ ts, Dig t.2) (i : Int) (A : Option Addr) (n c : Nat) (w : World) (hnc : n ≤ c) (h : TSl w w.heap.size A n ts) (hg : RoundsAt w) (hq : (rootR ts).2 ≠ 0 ∨ i < 0 ∨ (n : Int) ≤ i) :
    Calls Tryd.prog 11 #[.slice A n c, .int .i64 i] w (fun e w' => e = .returned (.tuple #[.slice none 0 0, .iface 40 (.int .i64 (pathQ (rootR ts).2))]) ∧ Below w.heap.size w w') := by
  have hRoot := fun w' h1 h2 => Root_any ts hd A n c w' hnc h1 h2
  have hRd := rootR_dig ts hd
  generalize rootR ts = R at hRoot hRd hq ⊢
  obtain ⟨x, q⟩ := R
  have HRoot : Hid (∀ w', TSl w' w'.heap.size A n ts → RoundsAt w' → Calls Tryd.prog 10 #[.slice A n c] w' (fun e w'' => e = .returned (.tuple #[tV x, errA q]) ∧ Below w'.heap.size w' w'')) := aside hRoot
  have HRd := aside hRd
  have HSl := aside h
  have HG := aside hg
  clear hRoot hRd h hg hd hnc
  by_cases hq0 : q = 0
  · subst hq0
    have hr : i < 0 ∨ (n : Int) ≤ i := by
      rcases hq with h | h
      · exact absurd rfl h
      · exact h
    clear hq
    rw [show errA 0 = .nilIface from rfl] at HRoot
    rcases hr with hr | hr
    · have e1 : i < 0 := hr
      clear hr
      go_enter Tryd.func11, Tryd.ntmps11
      go_wp2_with (first
        | (go_at_call 10; refine (HRoot.out w HSl.out HG.out).mono ?_; rintro e w2 ⟨rfl, hb2⟩; have HB2 := aside hb2; have R2 := TotAt.new w2 0 zeroD; clear hb2)
        | (refine wpList_store_row rfl 25 (.tmp 6) (.tmp 14) rfl w2.heap.size (totR x.1 x.2) rfl rfl 25 (totR 0 zeroD) R2 (totInfo HRd.out.1) (tot_same rfl HRd.out.1) (totR_one _ _) ?_)
        | fail)
      go_ret2
      exact ⟨rfl, below_setRow (HB2.out.alloc HB2.out.size _) _ HB2.out.size _⟩
    · by_cases e0 : i < 0
      · have e1 : i < 0 := e0
        clear hr e0
        go_enter Tryd.func11, Tryd.ntmps11
        go_wp2_with (first
          | (go_at_call 10; refine (HRoot.out w HSl.out HG.out).mono ?_; rintro e w2 ⟨rfl, hb2⟩; have HB2 := aside hb2; have R2 := TotAt.new w2 0 zeroD; clear hb2)
          | (refine wpList_store_row rfl 25 (.tmp 6) (.tmp 14) rfl w2.heap.size (totR x.1 x.2) rfl rfl 25 (totR 0 zeroD) R2 (totInfo HRd.out.1) (tot_same rfl HRd.out.1) (totR_one _ _) ?_)
          | fail)
        go_ret2
        exact ⟨rfl, below_setRow (HB2.out.alloc HB2.out.size _) _ HB2.out.size _⟩
      · have e1 : (i < 0) = False := by simp only [eq_iff_iff, iff_false]; exact e0
        clear e0
        go_enter Tryd.func11, Tryd.ntmps11
        go_wp2_with (first
          | (go_at_call 10; refine (HRoot.out w HSl.out HG.out).mono ?_; rintro e w2 ⟨rfl, hb2⟩; have HB2 := aside hb2; have R2 := TotAt.new w2 0 zeroD; clear hb2)
          | (refine wpList_store_row rfl 25 (.tmp 6) (.tmp 14) rfl w2.heap.size (totR x.1 x.2) rfl rfl 25 (totR 0 zeroD) R2 (totInfo HRd.out.1) (tot_same rfl HRd.out.1) (totR_one _ _) ?_)
          | fail)
        go_ret2
        exact ⟨rfl, below_setRow (HB2.out.alloc HB2.out.size _) _ HB2.out.size _⟩
  · have he : errA q = .iface 40 (.int .i64 q) := by unfold errA; rw [if_neg hq0]
    rw [he] at HRoot
    have HV : Hid (pathQ q = q) := aside (if_pos hq0)
    clear he hq0 hq
    go_enter Tryd.func11, Tryd.ntmps11
    go_wp2_with (first
      | (go_at_call 10; refine (HRoot.out w HSl.out HG.out).mono ?_; rintro e w2 ⟨rfl, hb2⟩; have HB2 := aside hb2; have R2 := TotAt.new w2 0 zeroD; clear hb2)
      | (refine wpList_store_row rfl 25 (.tmp 6) (.tmp 14) rfl w2.heap.size (totR x.1 x.2) rfl rfl 25 (totR 0 zeroD) R2 (totInfo HRd.out.1) (tot_same rfl HRd.out.1) (totR_one _ _) ?_)
      | fail)
    go_ret2
    exact ⟨by rw [HV.out]; rfl, below_setRow (HB2.out.alloc HB2.out.size _) _ HB2.out.size _⟩

set_option maxHeartbeats 4000000 in
set_option maxRecDepth 100000 in
theorem totals_same (ts : List Tot) (hd : ∀ t ∈ ts, Dig t.2) (A B : Option Addr) (n c d : Nat) (w : World) (hn : n ≤ 300) (h1 : TSl w w.heap.size A n ts) (h2 : TSl w w.heap.size B n ts) :
    Calls Tryd.prog 20 #[.slice A n c, .slice B n d] w (fun e w' => e = .returned (.bool true) ∧ Below w.heap.size w w') := by
  have H1 := aside h1
  have H2 := aside h2
  have HD := aside hd
  have hln := aside (FSl.len totE_len (by decide) h1)
  have e0 : ((n : Int) != (n : Int)) = false := by simp
  clear h1 h2 hd
  go_enter Tryd.func20, Tryd.ntmps20
  go_wp2_with fail
  go_loopw [5] (fun v5 wr => ∃ (k : Nat), k ≤ n ∧ v5 = .int .i64 k ∧ Hid (Below w.heap.size w wr)) (fun v5 _ => n - (Go.RowKit.intOf v5).toNat)
  case atStart => exact ⟨0, by omega, rfl, aside (Below.refl _ _)⟩
  case round =>
    obtain ⟨k, hk, rfl, HB⟩ := hrel
    by_cases k1 : k < n
    · have k1' : ((k : Int) < (n : Int)) = True := by simp only [eq_iff_iff, iff_true]; omega
      obtain ⟨pb, po, hA, hpb, hpr, hpd⟩ := TSl.at_ H1.out HD.out k1
      obtain ⟨qb, qo, hBq, hqb, hqr, -⟩ := TSl.at_ H2.out HD.out k1
      subst hA hBq
      generalize ts.getD k noTot = t at hpr hpd hqr
      have HTd := aside hpd
      have HR1 : Hid (∀ W, Below w.heap.size w W → W.rangeAt pb (po + k * 33) (totL t.1 t.2)) := aside (fun W hW j v hv => (hW.cell (p := ⟨pb, po + k * 33 + j, none⟩) hpb).trans (hpr j v hv))
      have HR2 : Hid (∀ W, Below w.heap.size w W → W.rangeAt qb (qo + k * 33) (totL t.1 t.2)) := aside (fun W hW j v hv => (hW.cell (p := ⟨qb, qo + k * 33 + j, none⟩) hqb).trans (hqr j v hv))
      have heq1 : ∀ W, (Op.equalIn 10000 25 (.agg (totL t.1 t.2).toArray) (.agg (totL t.1 t.2).toArray)).run Tryd.prog W = .ok true W := fun W => tot_eq (s := t) hpd.1 W
      have hk0 : (0 : Int) ≤ (k : Int) := by omega
      have hB0 : Below w.heap.size w wr.drew := below_drawn HB.out 1
      clear hpr hpd hqr
      go_upto_region 6 with fail
      refine wp_region_noPanic ?_
      refine wp_region_held_drew (S := (fun w' => Below w.heap.size w w')) (by kernel_rfl) hB0 (fun hS => ?_)
      refine wpAnyH_take (i := 0) (v := ?_) rfl (by kernel_rfl) (by kernel_rfl) (by kernel_rfl) (fun _ _ _ h => h) (Or.inl ⟨by rfl, ?_⟩) hS ?_
      rotate_left
      · (intro W hSw; (try dsimp only at hSw); go_simp; try with_reducible rfl)
      (repeat (first | simp only [List.getElem_toArray] | simp only [List.getElem_cons_succ] | simp only [List.getElem_cons_zero] | simp only [Act.put] | simp only [List.setIfInBounds_toArray] | simp only [List.set_cons_succ] | simp only [List.set_cons_zero]))
      refine wpAnyH_take (i := 1) (v := ?_) rfl (by kernel_rfl) (by kernel_rfl) (by kernel_rfl) (fun _ _ _ h => h) (Or.inl ⟨by rfl, ?_⟩) hS ?_
      rotate_left
      · (intro W hSw; (try dsimp only at hSw); go_simp; try with_reducible rfl)
      (repeat (first | simp only [List.getElem_toArray] | simp only [List.getElem_cons_succ] | simp only [List.getElem_cons_zero] | simp only [Act.put] | simp only [List.setIfInBounds_toArray] | simp only [List.set_cons_succ] | simp only [List.set_cons_zero]))
      refine wpAnyH_take (i := 2) (v := ?_) rfl (by kernel_rfl) (by kernel_rfl) (by kernel_rfl) (fun _ _ _ h => h) (Or.inl ⟨by rfl, ?_⟩) hS ?_
      rotate_left
      · (intro W hSw; (try dsimp only at hSw); go_simp; try with_reducible rfl)
      (repeat (first | simp only [List.getElem_toArray] | simp only [List.getElem_cons_succ] | simp only [List.getElem_cons_zero] | simp only [Act.put] | simp only [List.setIfInBounds_toArray] | simp only [List.set_cons_succ] | simp only [List.set_cons_zero]))
      refine wpAnyH_take (i := 3) (v := _) rfl (by kernel_rfl) (by kernel_rfl) (by kernel_rfl) (fun _ _ _ h => h) (yieldsIf_load_mid (by rfl) _ _ rfl pb (po + k * 33) rfl (totL t.1 t.2) _ (fun W hW => HR1.out W hW) Tryd.underlying25 rfl (totLI HTd.out.1)) hS ?_
      (repeat (first | simp only [List.getElem_toArray] | simp only [List.getElem_cons_succ] | simp only [List.getElem_cons_zero] | simp only [Act.put] | simp only [List.setIfInBounds_toArray] | simp only [List.set_cons_succ] | simp only [List.set_cons_zero]))
      refine wpAnyH_take (i := 4) (v := ?_) rfl (by kernel_rfl) (by kernel_rfl) (by kernel_rfl) (fun _ _ _ h => h) (Or.inl ⟨by rfl, ?_⟩) hS ?_
      rotate_left
      · (intro W hSw; (try dsimp only at hSw); go_simp; try with_reducible rfl)
      (repeat (first | simp only [List.getElem_toArray] | simp only [List.getElem_cons_succ] | simp only [List.getElem_cons_zero] | simp only [Act.put] | simp only [List.setIfInBounds_toArray] | simp only [List.set_cons_succ] | simp only [List.set_cons_zero]))
      refine wpAnyH_take (i := 5) (v := ?_) rfl (by kernel_rfl) (by kernel_rfl) (by kernel_rfl) (fun _ _ _ h => h) (Or.inl ⟨by rfl, ?_⟩) hS ?_
      rotate_left
      · (intro W hSw; (try dsimp only at hSw); go_simp; try with_reducible rfl)
      (repeat (first | simp only [List.getElem_toArray] | simp only [List.getElem_cons_succ] | simp only [List.getElem_cons_zero] | simp only [Act.put] | simp only [List.setIfInBounds_toArray] | simp only [List.set_cons_succ] | simp only [List.set_cons_zero]))
      refine wpAnyH_take (i := 6) (v := ?_) rfl (by kernel_rfl) (by kernel_rfl) (by kernel_rfl) (fun _ _ _ h => h) (Or.inl ⟨by rfl, ?_⟩) hS ?_
      rotate_left
      · (intro W hSw; (try dsimp only at hSw); go_simp; try with_reducible rfl)
      (repeat (first | simp only [List.getElem_toArray] | simp only [List.getElem_cons_succ] | simp only [List.getElem_cons_zero] | simp only [Act.put] | simp only [List.setIfInBounds_toArray] | simp only [List.set_cons_succ] | simp only [List.set_cons_zero]))
      refine wpAnyH_take (i := 7) (v := _) rfl (by kernel_rfl) (by kernel_rfl) (by kernel_rfl) (fun _ _ _ h => h) (yieldsIf_load_mid (by rfl) _ _ rfl qb (qo + k * 33) rfl (totL t.1 t.2) _ (fun W hW => HR2.out W hW) Tryd.underlying25 rfl (totLI HTd.out.1)) hS ?_
      (repeat (first | simp only [List.getElem_toArray] | simp only [List.getElem_cons_succ] | simp only [List.getElem_cons_zero] | simp only [Act.put] | simp only [List.setIfInBounds_toArray] | simp only [List.set_cons_succ] | simp only [List.set_cons_zero]))
      refine wpAnyH_take (i := 8) (v := ?_) rfl (by kernel_rfl) (by kernel_rfl) (by kernel_rfl) (fun _ _ _ h => h) (Or.inl ⟨by rfl, ?_⟩) hS ?_
      rotate_left
      · (intro W hSw; (try dsimp only at hSw); go_simp; try with_reducible rfl)
      (repeat (first | simp only [List.getElem_toArray] | simp only [List.getElem_cons_succ] | simp only [List.getElem_cons_zero] | simp only [Act.put] | simp only [List.setIfInBounds_toArray] | simp only [List.set_cons_succ] | simp only [List.set_cons_zero]))
      refine wpAnyH_done (by kernel_rfl) ?_ _
      refine NoPanic.normal ?_
      go_wp2_with fail
      exact ⟨⟨k + 1, by omega, by go_num, aside hB0⟩, by simp [Go.RowKit.intOf]; omega⟩
    · obtain rfl : k = n := by omega
      have k1' : ((k : Int) < (k : Int)) = False := by simp
      clear k1 hk
      go_wp2_with fail
      go_ret
      exact ⟨rfl, HB.out⟩
end Go.Proofs.YtkpbhbafapdboaaDoor
