/- Totals the other way round: slices.Reverse: the walk. Conditions: named in each theorem. -/
import Derived.Test.YtkpbhbafapdboaaDoorAudP
namespace Go.Proofs.YtkpbhbafapdboaaDoor
open Go.RowKit Go.ChangeShapes Go.WideShapes Go.ChangeAt Go.Sort Go.Lib

instance : Inhabited Tot := ⟨noTot⟩
/-- A row of totals that may be written. -/
def TRow (w : World) (g : Nat) (dk : Array Tot) : Prop := ∀ k, k < dk.size → w.rangeAt g (k * 33) (totL dk[k]!.1 dk[k]!.2) ∧ w.there g (k * 33) 33 ∧ Dig dk[k]!.2
theorem below_setCells {B : Nat} {a : World} : ∀ {w : World}, Below B a w → ∀ (o : Nat) {g : Nat}, B ≤ g → ∀ (vs : List Value), Below B a (w.setCells g o vs)
  | _, h, _, _, _, [] => h
  | _, h, o, g, hg, v :: r => below_setCells (h.setCell (show B ≤ g from hg) v) (o + 1) hg r
theorem swp_at (dk : Array Tot) {i j k : Nat} (hi : i < dk.size) (hj : j < dk.size) (hk : k < dk.size) : (swp dk i j)[k]! = if k = j then dk[i]! else if k = i then dk[j]! else dk[k]! := by
  unfold swp
  by_cases h1 : k = j
  · subst h1
    rw [if_pos rfl, getElem!_set_same _ _ _ (by simpa using hk)]
  · rw [if_neg h1, getElem!_set_other _ _ _ _ h1]
    by_cases h2 : k = i
    · subst h2
      rw [if_pos rfl, getElem!_set_same _ _ _ hk]
    · rw [if_neg h2, getElem!_set_other _ _ _ _ h2]
theorem TRow.swap {w : World} {g : Nat} {dk : Array Tot} {i j : Nat} (h : TRow w g dk) (hij : i < j) (hi : i < dk.size) (hj : j < dk.size) :
    TRow ((w.setCells g (i * 33) (totR dk[j]!.1 dk[j]!.2).toList).setCells g (j * 33) (totR dk[i]!.1 dk[i]!.2).toList) g (swp dk i j) := by
  intro k hk
  rw [size_swp] at hk
  obtain ⟨a1, a2, a3⟩ := h i hi
  obtain ⟨b1, b2, b3⟩ := h j hj
  obtain ⟨c1, c2, c3⟩ := h k hk
  have l1 : (totR dk[j]!.1 dk[j]!.2).toList = totL dk[j]!.1 dk[j]!.2 := rfl
  have l2 : (totR dk[i]!.1 dk[i]!.2).toList = totL dk[i]!.1 dk[i]!.2 := rfl
  rw [l1, l2, swp_at dk hi hj hk]
  have n1 := totL_len (s := dk[j]!.1) b3.1
  have n2 := totL_len (s := dk[i]!.1) a3.1
  refine ⟨?_, World.there_setCells (World.there_setCells c2 _ _ _) _ _ _, ?_⟩
  · by_cases h1 : k = j
    · rw [if_pos h1, h1]
      exact World.rangeAt_setCells_same _ _ _ _ (by rw [n2]; exact World.there_setCells b2 _ _ _)
    · rw [if_neg h1]
      by_cases h2 : k = i
      · rw [if_pos h2, h2]
        exact World.rangeAt_setCells_apart (World.rangeAt_setCells_same _ _ _ _ (by rw [n1]; exact a2)) _ _ _ (by rw [n1, n2]; omega)
      · rw [if_neg h2]
        have n3 := totL_len (s := dk[k]!.1) c3.1
        exact World.rangeAt_setCells_apart (World.rangeAt_setCells_apart c1 _ _ _ (by rw [n1, n3]; omega)) _ _ _ (by rw [n2, n3]; omega)
  · by_cases h1 : k = j
    · rw [if_pos h1]; exact a3
    · rw [if_neg h1]
      by_cases h2 : k = i
      · rw [if_pos h2]; exact b3
      · rw [if_neg h2]; exact c3

set_option maxHeartbeats 4000000 in
set_option maxRecDepth 1000000 in
theorem revT_arr (g cap base : Nat) (hg : base ≤ g) (d : Array Tot) (w : World) (hH : TRow w g d) (hsz : d.size ≤ 1000000) :
    Calls Tryd.prog 28 #[.slice (some ⟨g, 0, none⟩) d.size cap] w fun e w' => e = .returned (.tuple #[]) ∧ TRow w' g d.reverse ∧ Below base w w' := by
  have HH := aside hH
  clear hH
  go_enter Tryd.func28, Tryd.ntmps28
  go_wp2
  go_loopg [2, 3] d.size (fun k s2 s3 wr => ∃ (i jn : Nat) (jz : Int) (dk : Array Tot), s2 = .int .i64 i ∧ s3 = .int .i64 jz ∧ ((i : Int) < jz → jz = jn ∧ jn < d.size) ∧ (¬ (i : Int) < jz → ¬ i < jn) ∧ jn - i ≤ k ∧
    dk.size = d.size ∧ Hid (TRow wr g dk) ∧ Hid (Below base w wr) ∧ reverseLoop i jn dk = reverseLoop 0 (d.size - 1) d)
  case atStart => exact ⟨0, d.size - 1, (d.size : Int) - 1, d, rfl, rfl, fun h => ⟨by omega, by omega⟩, fun h => by omega, by omega, rfl, HH, aside (Below.refl _ _), rfl⟩
  case round =>
    obtain ⟨i, jn, jz, dk, rfl, rfl, h1, h2, hk, hds, HT, HB, heq⟩ := hrel
    by_cases hlt : (i : Int) < jz
    · obtain ⟨rfl, hjn⟩ := h1 hlt
      have hij : i < jn := by omega
      have Hi := aside (show wr.drew.rangeAt g (i * 33) (totL dk[i]!.1 dk[i]!.2) ∧ wr.drew.there g (i * 33) 33 ∧ Dig dk[i]!.2 from HT.out i (by omega))
      have Hjn := aside (show wr.drew.rangeAt g (jn * 33) (totL dk[jn]!.1 dk[jn]!.2) ∧ wr.drew.there g (jn * 33) 33 ∧ Dig dk[jn]!.2 from HT.out jn (by omega))
      have i1 : (i : Int) < (d.size : Int) := by omega
      have i2 : (jn : Int) < (d.size : Int) := by omega
      have i3 : (0 : Int) ≤ (i : Int) := by omega
      have i4 : (0 : Int) ≤ (jn : Int) := by omega
      clear h1 h2
      go_wp2_with fail
      refine wp_region_noPanic ?_
      refine wp_region_held_drew (S := (fun _ => True)) (by kernel_rfl) trivial (fun _ => ?_)
      refine wpAnyH_take (i := 0) (v := ?_) rfl (by kernel_rfl) (by kernel_rfl) (by kernel_rfl) (fun _ _ _ h => h) (Or.inl ⟨by rfl, ?_⟩) trivial ?_
      rotate_left
      · intro w hSw; go_simp; try with_reducible rfl
      (repeat (first | simp only [List.getElem_toArray] | simp only [List.getElem_cons_succ] | simp only [List.getElem_cons_zero] | simp only [Act.put] | simp only [List.setIfInBounds_toArray] | simp only [List.set_cons_succ] | simp only [List.set_cons_zero]))
      refine wpAnyH_take (i := 1) (v := ?_) rfl (by kernel_rfl) (by kernel_rfl) (by kernel_rfl) (fun _ _ _ h => h) (Or.inl ⟨by rfl, ?_⟩) trivial ?_
      rotate_left
      · intro w hSw; go_simp; try with_reducible rfl
      (repeat (first | simp only [List.getElem_toArray] | simp only [List.getElem_cons_succ] | simp only [List.getElem_cons_zero] | simp only [Act.put] | simp only [List.setIfInBounds_toArray] | simp only [List.set_cons_succ] | simp only [List.set_cons_zero]))
      refine wpAnyH_take (i := 2) (v := ?_) rfl (by kernel_rfl) (by kernel_rfl) (by kernel_rfl) (fun _ _ _ h => h) (Or.inl ⟨by rfl, ?_⟩) trivial ?_
      rotate_left
      · intro w hSw; go_simp; try with_reducible rfl
      (repeat (first | simp only [List.getElem_toArray] | simp only [List.getElem_cons_succ] | simp only [List.getElem_cons_zero] | simp only [Act.put] | simp only [List.setIfInBounds_toArray] | simp only [List.set_cons_succ] | simp only [List.set_cons_zero]))
      refine wpAnyH_take (i := 3) (v := ?_) rfl (by kernel_rfl) (by kernel_rfl) (by kernel_rfl) (fun _ _ _ h => h) (Or.inl ⟨by rfl, ?_⟩) trivial ?_
      rotate_left
      · intro w hSw; go_simp; try with_reducible rfl
      (repeat (first | simp only [List.getElem_toArray] | simp only [List.getElem_cons_succ] | simp only [List.getElem_cons_zero] | simp only [Act.put] | simp only [List.setIfInBounds_toArray] | simp only [List.set_cons_succ] | simp only [List.set_cons_zero]))
      refine wpAnyH_take (i := 4) (v := ?_) rfl (by kernel_rfl) (by kernel_rfl) (by kernel_rfl) (fun _ _ _ h => h) (Or.inl ⟨by rfl, ?_⟩) trivial ?_
      rotate_left
      · intro w hSw; go_simp; try with_reducible rfl
      (repeat (first | simp only [List.getElem_toArray] | simp only [List.getElem_cons_succ] | simp only [List.getElem_cons_zero] | simp only [Act.put] | simp only [List.setIfInBounds_toArray] | simp only [List.set_cons_succ] | simp only [List.set_cons_zero]))
      refine wpAnyH_take (i := 5) (v := ?_) rfl (by kernel_rfl) (by kernel_rfl) (by kernel_rfl) (fun _ _ _ h => h) (Or.inl ⟨by rfl, ?_⟩) trivial ?_
      rotate_left
      · intro w hSw; go_simp; try with_reducible rfl
      (repeat (first | simp only [List.getElem_toArray] | simp only [List.getElem_cons_succ] | simp only [List.getElem_cons_zero] | simp only [Act.put] | simp only [List.setIfInBounds_toArray] | simp only [List.set_cons_succ] | simp only [List.set_cons_zero]))
      refine wpAnyH_take (i := 8) (v := ?_) rfl (by kernel_rfl) (by kernel_rfl) (by kernel_rfl) (fun _ _ _ h => h) (Or.inl ⟨by rfl, ?_⟩) trivial ?_
      rotate_left
      · intro w hSw; go_simp; try with_reducible rfl
      (repeat (first | simp only [List.getElem_toArray] | simp only [List.getElem_cons_succ] | simp only [List.getElem_cons_zero] | simp only [Act.put] | simp only [List.setIfInBounds_toArray] | simp only [List.set_cons_succ] | simp only [List.set_cons_zero]))
      refine wpAnyH_take (i := 9) (v := ?_) rfl (by kernel_rfl) (by kernel_rfl) (by kernel_rfl) (fun _ _ _ h => h) (Or.inl ⟨by rfl, ?_⟩) trivial ?_
      rotate_left
      · intro w hSw; go_simp; try with_reducible rfl
      (repeat (first | simp only [List.getElem_toArray] | simp only [List.getElem_cons_succ] | simp only [List.getElem_cons_zero] | simp only [Act.put] | simp only [List.setIfInBounds_toArray] | simp only [List.set_cons_succ] | simp only [List.set_cons_zero]))
      refine wpAnyH_take (i := 6) (v := ?_) rfl (by kernel_rfl) (by kernel_rfl) (by kernel_rfl) (fun _ _ _ h => h) (Or.inl ⟨by rfl, ?_⟩) trivial ?_
      rotate_left
      · intro w hSw; go_simp; try with_reducible rfl
      (repeat (first | simp only [List.getElem_toArray] | simp only [List.getElem_cons_succ] | simp only [List.getElem_cons_zero] | simp only [Act.put] | simp only [List.setIfInBounds_toArray] | simp only [List.set_cons_succ] | simp only [List.set_cons_zero]))
      refine wpAnyH_take (i := 10) (v := ?_) rfl (by kernel_rfl) (by kernel_rfl) (by kernel_rfl) (fun _ _ _ h => h) (Or.inl ⟨by rfl, ?_⟩) trivial ?_
      rotate_left
      · intro w hSw; go_simp; try with_reducible rfl
      (repeat (first | simp only [List.getElem_toArray] | simp only [List.getElem_cons_succ] | simp only [List.getElem_cons_zero] | simp only [Act.put] | simp only [List.setIfInBounds_toArray] | simp only [List.set_cons_succ] | simp only [List.set_cons_zero]))
      refine wpAnyH_ready (rs := [7, 11]) (by kernel_rfl) (by simp) ?_
      refine AllReadyH.cons rfl (fun K hK => ?_) (AllReadyH.cons rfl (fun K hK => ?_) (AllReadyH.nil))
      · skip
        rw [if_pos (by rfl)]
        refine wp_load_mid 25 (.tmp 20) rfl g (jn * 33) rfl (totL dk[jn]!.1 dk[jn]!.2) _ Hjn.out.1 Tryd.underlying25 rfl (totLI Hjn.out.2.2.1) ?_
        refine hK.out _ _ trivial (fun _ => ?_)
        clear hK K
        (repeat (first | simp only [Act.put] | simp only [List.setIfInBounds_toArray] | simp only [List.set_cons_succ] | simp only [List.set_cons_zero]))
        refine wpAnyH_ready (rs := [11]) (by kernel_rfl) (by simp) ?_
        refine AllReadyH.cons rfl (fun K hK => ?_) (AllReadyH.nil)
        rw [if_pos (by rfl)]
        refine wp_load_mid 25 (.tmp 24) rfl g (i * 33) rfl (totL dk[i]!.1 dk[i]!.2) _ Hi.out.1 Tryd.underlying25 rfl (totLI Hi.out.2.2.1) ?_
        refine hK.out _ _ trivial (fun _ => ?_)
        clear hK K
        (repeat (first | simp only [Act.put] | simp only [List.setIfInBounds_toArray] | simp only [List.set_cons_succ] | simp only [List.set_cons_zero]))
        refine wpAnyH_take (i := 12) (v := ?_) rfl (by kernel_rfl) (by kernel_rfl) (by kernel_rfl) (fun _ _ _ h => h) (Or.inl ⟨by rfl, ?_⟩) trivial ?_
        rotate_left
        · intro w hSw; go_simp; try with_reducible rfl
        (repeat (first | simp only [List.getElem_toArray] | simp only [List.getElem_cons_succ] | simp only [List.getElem_cons_zero] | simp only [Act.put] | simp only [List.setIfInBounds_toArray] | simp only [List.set_cons_succ] | simp only [List.set_cons_zero]))
        refine wpAnyH_ready (rs := [13]) (by kernel_rfl) (by simp) ?_
        refine AllReadyH.cons rfl (fun K hK => ?_) (AllReadyH.nil)
        rw [if_pos (by rfl)]
        refine wp_store_mid 25 (.tmp 26) (.tmp 21) rfl g (i * 33) (totR dk[jn]!.1 dk[jn]!.2) rfl rfl (by rw [totR_size Hjn.out.2.2.1]; exact Hi.out.2.1) (totInfo Hjn.out.2.2.1) (totR_one _ _) ?_
        refine hK.out _ _ trivial (fun _ => ?_)
        clear hK K
        (repeat (first | simp only [Act.put] | simp only [List.setIfInBounds_toArray] | simp only [List.set_cons_succ] | simp only [List.set_cons_zero]))
        refine wpAnyH_take (i := 14) (v := ?_) rfl (by kernel_rfl) (by kernel_rfl) (by kernel_rfl) (fun _ _ _ h => h) (Or.inl ⟨by rfl, ?_⟩) trivial ?_
        rotate_left
        · intro w hSw; go_simp; try with_reducible rfl
        (repeat (first | simp only [List.getElem_toArray] | simp only [List.getElem_cons_succ] | simp only [List.getElem_cons_zero] | simp only [Act.put] | simp only [List.setIfInBounds_toArray] | simp only [List.set_cons_succ] | simp only [List.set_cons_zero]))
        refine wpAnyH_ready (rs := [15]) (by kernel_rfl) (by simp) ?_
        refine AllReadyH.cons rfl (fun K hK => ?_) (AllReadyH.nil)
        rw [if_pos (by rfl)]
        refine wp_store_mid 25 (.tmp 27) (.tmp 25) rfl g (jn * 33) (totR dk[i]!.1 dk[i]!.2) rfl rfl (by rw [totR_size Hi.out.2.2.1]; exact World.there_setCells Hjn.out.2.1 g (i * 33) _) (totInfo Hi.out.2.2.1) (totR_one _ _) ?_
        refine hK.out _ _ trivial (fun _ => ?_)
        clear hK K
        (repeat (first | simp only [Act.put] | simp only [List.setIfInBounds_toArray] | simp only [List.set_cons_succ] | simp only [List.set_cons_zero]))
        refine wpAnyH_done (by kernel_rfl) ?_ _
        refine NoPanic.normal ?_
        (repeat (first | simp only [List.getElem_toArray] | simp only [List.getElem_cons_succ] | simp only [List.getElem_cons_zero] | simp only [Act.put] | simp only [List.setIfInBounds_toArray] | simp only [List.set_cons_succ] | simp only [List.set_cons_zero]))
        have hT2 : TRow ((wr.drew.setCells g (i * 33) (totR dk[jn]!.1 dk[jn]!.2).toList).setCells g (jn * 33) (totR dk[i]!.1 dk[i]!.2).toList) g (swp dk i jn) := TRow.swap (show TRow wr.drew g dk from HT.out) (by omega) (by omega) (by omega)
        have hB2 : Below base w ((wr.drew.setCells g (i * 33) (totR dk[jn]!.1 dk[jn]!.2).toList).setCells g (jn * 33) (totR dk[i]!.1 dk[i]!.2).toList) := below_setCells (below_setCells (below_drawn HB.out 1) _ hg _) _ hg _
        generalize ((wr.drew.setCells g (i * 33) (totR dk[jn]!.1 dk[jn]!.2).toList).setCells g (jn * 33) (totR dk[i]!.1 dk[i]!.2).toList) = w5 at hT2 hB2 ⊢
        have HT2 := aside hT2
        have HB2 := aside hB2
        clear hT2 hB2
        go_wp2_with fail
        go_roundg (jn - 1 - (i + 1))
        case measure => omega
        case rel =>
          rw [reverseLoop, if_pos hij] at heq
          exact ⟨i + 1, jn - 1, (jn : Int) - 1, swp dk i jn, by simp, rfl, fun h => ⟨by omega, by omega⟩, fun h => by omega, Nat.le_refl _, by rw [size_swp]; exact hds, HT2, HB2, heq⟩
      · skip
        rw [if_pos (by rfl)]
        refine wp_load_mid 25 (.tmp 24) rfl g (i * 33) rfl (totL dk[i]!.1 dk[i]!.2) _ Hi.out.1 Tryd.underlying25 rfl (totLI Hi.out.2.2.1) ?_
        refine hK.out _ _ trivial (fun _ => ?_)
        clear hK K
        (repeat (first | simp only [Act.put] | simp only [List.setIfInBounds_toArray] | simp only [List.set_cons_succ] | simp only [List.set_cons_zero]))
        refine wpAnyH_ready (rs := [7]) (by kernel_rfl) (by simp) ?_
        refine AllReadyH.cons rfl (fun K hK => ?_) (AllReadyH.nil)
        rw [if_pos (by rfl)]
        refine wp_load_mid 25 (.tmp 20) rfl g (jn * 33) rfl (totL dk[jn]!.1 dk[jn]!.2) _ Hjn.out.1 Tryd.underlying25 rfl (totLI Hjn.out.2.2.1) ?_
        refine hK.out _ _ trivial (fun _ => ?_)
        clear hK K
        (repeat (first | simp only [Act.put] | simp only [List.setIfInBounds_toArray] | simp only [List.set_cons_succ] | simp only [List.set_cons_zero]))
        refine wpAnyH_take (i := 12) (v := ?_) rfl (by kernel_rfl) (by kernel_rfl) (by kernel_rfl) (fun _ _ _ h => h) (Or.inl ⟨by rfl, ?_⟩) trivial ?_
        rotate_left
        · intro w hSw; go_simp; try with_reducible rfl
        (repeat (first | simp only [List.getElem_toArray] | simp only [List.getElem_cons_succ] | simp only [List.getElem_cons_zero] | simp only [Act.put] | simp only [List.setIfInBounds_toArray] | simp only [List.set_cons_succ] | simp only [List.set_cons_zero]))
        refine wpAnyH_ready (rs := [13]) (by kernel_rfl) (by simp) ?_
        refine AllReadyH.cons rfl (fun K hK => ?_) (AllReadyH.nil)
        rw [if_pos (by rfl)]
        refine wp_store_mid 25 (.tmp 26) (.tmp 21) rfl g (i * 33) (totR dk[jn]!.1 dk[jn]!.2) rfl rfl (by rw [totR_size Hjn.out.2.2.1]; exact Hi.out.2.1) (totInfo Hjn.out.2.2.1) (totR_one _ _) ?_
        refine hK.out _ _ trivial (fun _ => ?_)
        clear hK K
        (repeat (first | simp only [Act.put] | simp only [List.setIfInBounds_toArray] | simp only [List.set_cons_succ] | simp only [List.set_cons_zero]))
        refine wpAnyH_take (i := 14) (v := ?_) rfl (by kernel_rfl) (by kernel_rfl) (by kernel_rfl) (fun _ _ _ h => h) (Or.inl ⟨by rfl, ?_⟩) trivial ?_
        rotate_left
        · intro w hSw; go_simp; try with_reducible rfl
        (repeat (first | simp only [List.getElem_toArray] | simp only [List.getElem_cons_succ] | simp only [List.getElem_cons_zero] | simp only [Act.put] | simp only [List.setIfInBounds_toArray] | simp only [List.set_cons_succ] | simp only [List.set_cons_zero]))
        refine wpAnyH_ready (rs := [15]) (by kernel_rfl) (by simp) ?_
        refine AllReadyH.cons rfl (fun K hK => ?_) (AllReadyH.nil)
        rw [if_pos (by rfl)]
        refine wp_store_mid 25 (.tmp 27) (.tmp 25) rfl g (jn * 33) (totR dk[i]!.1 dk[i]!.2) rfl rfl (by rw [totR_size Hi.out.2.2.1]; exact World.there_setCells Hjn.out.2.1 g (i * 33) _) (totInfo Hi.out.2.2.1) (totR_one _ _) ?_
        refine hK.out _ _ trivial (fun _ => ?_)
        clear hK K
        (repeat (first | simp only [Act.put] | simp only [List.setIfInBounds_toArray] | simp only [List.set_cons_succ] | simp only [List.set_cons_zero]))
        refine wpAnyH_done (by kernel_rfl) ?_ _
        refine NoPanic.normal ?_
        (repeat (first | simp only [List.getElem_toArray] | simp only [List.getElem_cons_succ] | simp only [List.getElem_cons_zero] | simp only [Act.put] | simp only [List.setIfInBounds_toArray] | simp only [List.set_cons_succ] | simp only [List.set_cons_zero]))
        have hT2 : TRow ((wr.drew.setCells g (i * 33) (totR dk[jn]!.1 dk[jn]!.2).toList).setCells g (jn * 33) (totR dk[i]!.1 dk[i]!.2).toList) g (swp dk i jn) := TRow.swap (show TRow wr.drew g dk from HT.out) (by omega) (by omega) (by omega)
        have hB2 : Below base w ((wr.drew.setCells g (i * 33) (totR dk[jn]!.1 dk[jn]!.2).toList).setCells g (jn * 33) (totR dk[i]!.1 dk[i]!.2).toList) := below_setCells (below_setCells (below_drawn HB.out 1) _ hg _) _ hg _
        generalize ((wr.drew.setCells g (i * 33) (totR dk[jn]!.1 dk[jn]!.2).toList).setCells g (jn * 33) (totR dk[i]!.1 dk[i]!.2).toList) = w5 at hT2 hB2 ⊢
        have HT2 := aside hT2
        have HB2 := aside hB2
        clear hT2 hB2
        go_wp2_with fail
        go_roundg (jn - 1 - (i + 1))
        case measure => omega
        case rel =>
          rw [reverseLoop, if_pos hij] at heq
          exact ⟨i + 1, jn - 1, (jn : Int) - 1, swp dk i jn, by simp, rfl, fun h => ⟨by omega, by omega⟩, fun h => by omega, Nat.le_refl _, by rw [size_swp]; exact hds, HT2, HB2, heq⟩
    · have hnot := h2 hlt
      go_wp2
      refine bodyPost_end (results_none rfl _ _ _) rfl ?_
      refine ⟨rfl, ?_, HB.out⟩
      rw [reverseLoop, if_neg hnot] at heq
      rw [← Lib.reverseLoop_reverse, ← heq]
      exact HT.out
end Go.Proofs.YtkpbhbafapdboaaDoor
