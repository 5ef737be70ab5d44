/- key.ends and key.Public: the walks. Conditions: named in each theorem. -/
import Derived.Test.YtiigggbghgfdoaaDoorKey
namespace Go.Proofs.YtiigggbghgfdoaaDoor
open Go.RowKit Go.ChangeShapes Go.WideShapes Go.ChangeAt

/-- The ends of the first so many, of 67. -/
def endN (d : List Nat) (i : Nat) : List (List Nat) := (List.range i).map fun j => stepL 15 (macL d [5, j])
theorem endN_len (d : List Nat) (i : Nat) : (endN d i).length = i := by simp [endN]
theorem endN_succ (d : List Nat) (i : Nat) : (endN d (i + 1)).flatMap id = (endN d i).flatMap id ++ stepL 15 (macL d [5, i]) := by
  unfold endN
  rw [List.range_succ, List.map_append, List.flatMap_append]
  simp
theorem endN_dig (d : List Nat) (i : Nat) : ∀ x ∈ endN d i, x.length = 32 ∧ ∀ y ∈ x, y < 256 := by
  intro x hx
  obtain ⟨j, _, rfl⟩ := List.mem_map.1 hx
  exact ⟨stepL_len (macL_len _ _) 15, stepL_small (macL_small _ _) 15⟩
theorem endN_flat (d : List Nat) (i : Nat) : ((endN d i).flatMap id).length = i * 32 := by
  rw [dig_flat_len fun x hx => (endN_dig d i x hx).1, endN_len]
theorem zero65 : Tryd.zeroCells65 = rowY (List.replicate 2144 0) := by kernel_rfl
def u8s (l : List Nat) : List Value := l.map fun (x : Nat) => .int .u8 (x : Int)
theorem BlkY.fill {b : Nat} {T : TypeId} : ∀ (l mid pre post : List Nat) (w : World), BlkY w b T (pre ++ mid ++ post) → mid.length = l.length → BlkY (w.setCells b pre.length (u8s l)) b T (pre ++ l ++ post)
  | [], mid, pre, post, w, h, hl => by
    have e : mid = [] := List.eq_nil_of_length_eq_zero (by simpa using hl)
    subst e
    exact h
  | x :: l, mid, pre, post, w, h, hl => by
    match mid, hl with
    | m :: mid, hl =>
      have h1 := h.set pre.length x
      rw [show (pre ++ (m :: mid) ++ post).set pre.length x = (pre ++ [x]) ++ mid ++ post by
        rw [List.append_assoc, List.set_append_right _ _ (Nat.le_refl _), Nat.sub_self]
        simp] at h1
      have h2 := BlkY.fill l mid (pre ++ [x]) post (w.setCell ⟨b, pre.length, none⟩ (.int .u8 (x : Int))) h1 (by simpa using hl)
      rw [List.length_append] at h2
      simp only [List.append_assoc, List.cons_append, List.nil_append] at h2 ⊢
      exact h2
/-- What has been filled, and what has not. -/
def endR (d : List Nat) (i : Nat) : List Nat := (endN d i).flatMap id ++ List.replicate ((67 - i) * 32) 0
theorem endR_len {d : List Nat} {i : Nat} (h : i ≤ 67) : (endR d i).length = 2144 := by
  unfold endR
  rw [List.length_append, endN_flat, List.length_replicate]
  omega
theorem BlkY.end_ {w : World} {b : Nat} {T : TypeId} {d : List Nat} {i : Nat} (h : BlkY w b T (endR d i)) (hi : i < 67) : BlkY (w.setCells b (i * 32) (u8s (stepL 15 (macL d [5, i])))) b T (endR d (i + 1)) := by
  have e : endR d i = (endN d i).flatMap id ++ List.replicate 32 0 ++ List.replicate ((67 - (i + 1)) * 32) 0 := by
    unfold endR
    rw [List.append_assoc, List.replicate_append_replicate, show 32 + (67 - (i + 1)) * 32 = (67 - i) * 32 by omega]
  rw [e] at h
  have h2 := BlkY.fill (stepL 15 (macL d [5, i])) (List.replicate 32 0) _ _ w h (by rw [stepL_len (macL_len _ _)]; simp)
  rw [endN_flat, ← endN_succ] at h2
  exact h2
theorem BlkY.there {w : World} {b : Nat} {T : TypeId} {l : List Nat} (h : BlkY w b T l) (o n : Nat) (hn : o + n ≤ l.length) : w.there b o n := fun j hj => ⟨by rw [h.cell (by omega)]; rfl, h.fz _⟩
theorem rowY_list (l : List Nat) : (rowY l).toList = u8s l := by simp [rowY, u8s]
set_option maxHeartbeats 20000000 in
set_option maxRecDepth 100000 in
theorem ends_any (d : List Nat) (hd : d.length = 32) (hb : ∀ x ∈ d, x < 256) (sb : Nat) (w : World) (hs : BlkY w sb 23 d) (hg : RoundsAt w) :
    Calls Tryd.prog 27 #[.func (.func 43) #[] #[.pointer (some ⟨sb, 0, none⟩)], .func (.func 29) #[] #[]] w (fun e w' => e = .returned (.agg (rowY ((endN d 67).flatMap id))) ∧ Below w.heap.size w w') := by
  have HG := aside hg
  have HDb := aside hb
  have HDl := aside hd
  have B1 : Hid (Below w.heap.size w (w.alloc (.cells Tryd.zeroCells65 65))) := aside ((Below.refl _ _).alloc (Nat.le_refl _) _)
  have D1 : Hid (BlkY (w.alloc (.cells Tryd.zeroCells65 65)) w.heap.size 65 (endR d 0)) := aside (by
    rw [zero65]
    exact BlkY.new w _ _)
  have DS := aside (hs.below B1.out hs.lt)
  have hsb := hs.lt
  clear hg hb hd hs
  go_enter Tryd.func27, Tryd.ntmps27
  go_wp2_with fail
  generalize (w.alloc (.cells Tryd.zeroCells65 65)) = w1 at B1 D1 DS ⊢
  obtain ⟨B0, hB0⟩ : ∃ B0, B0 = w.heap.size := ⟨_, rfl⟩
  have EB := aside hB0
  simp only [← hB0] at D1 ⊢
  rw [← hB0] at hsb
  clear hB0
  go_loopw [6] (fun v6 wr => ∃ i : Nat, i ≤ 67 ∧ v6 = .int .i64 i ∧ Hid (BlkY wr B0 65 (endR d i)) ∧ Hid (BlkY wr sb 23 d) ∧ Hid (Below w.heap.size w wr)) (fun v6 _ => 67 - (Go.RowKit.intOf v6).toNat)
  case atStart => exact ⟨0, by omega, rfl, D1, DS, B1⟩
  case round =>
    clear D1 DS B1
    obtain ⟨i, hi, rfl, D1, DS, HB⟩ := hrel
    by_cases hi6 : i < 67
    · have i0 : (i : Int) < 67 := by omega
      have hwz := HB.out.size
      have hB0r := D1.out.lt
      go_wp2_with fail
      refine (secret_any d HDl.out HDb.out i (by omega) sb wr DS.out (HG.out.below HB.out)).mono ?_
      rintro e w2 ⟨rfl, hb2⟩
      have HB2 := aside (HB.out.trans (hb2.mono hwz))
      have D12 := aside (D1.out.below hb2 hB0r)
      have DS2 := aside (DS.out.below hb2 DS.out.lt)
      clear hb2 D1 DS
      go_wp2_with fail
      refine (fifteen_any (i : Int) w2).mono ?_
      rintro e w3 ⟨rfl, hw3⟩
      rw [hw3]
      clear hw3 w3
      go_wp2_with fail
      refine (step_any (macL d [5, i]) (macL_len _ _) (macL_small _ _) 15 (by omega) w2 (HG.out.below HB2.out)).mono ?_
      rintro e w3 ⟨rfl, hb3⟩
      have HB3 := aside (HB2.out.trans (hb3.mono HB2.out.size))
      have D13 := aside (D12.out.below hb3 D12.out.lt)
      have DS3 := aside (DS2.out.below hb3 DS2.out.lt)
      clear hb3 D12 DS2 HB2
      have hnx := D13.out.end_ hi6
      have hth := D13.out.there (i * 32) 32 (by rw [endR_len hi]; omega)
      have hXl := stepL_len (macL_len d [5, i]) 15
      generalize stepL 15 (macL d [5, i]) = X at hnx hXl ⊢
      rw [← rowY_list] at hnx
      have HTh : Hid (w3.there B0 (i * 32) (rowY X).size) := aside (by rw [rowY_size, hXl]; exact hth)
      have HS9 := aside (zinfo X hXl)
      have D14 := aside hnx
      have HB4 : Hid (Below w.heap.size w (w3.setCells B0 (i * 32) (rowY X).toList)) := aside (below_cells (by rw [EB.out]; exact Nat.le_refl _) _ _ _ HB3.out)
      have DS4 : Hid (BlkY (w3.setCells B0 (i * 32) (rowY X).toList) sb 23 d) := aside ((below_cells (B := B0) (Nat.le_refl _) _ _ _ (Below.refl B0 w3)).block sb hsb |>.trans DS3.out)
      clear hnx hth DS3 HB3 D13
      go_wp2_with (first
        | (refine wpList_store_mid rfl 23 (.tmp 17) (.tmp 16) rfl B0 (i * 32) (rowY X) rfl rfl HTh.out HS9.out (rowY_one _) ?_)
        | fail)
      exact ⟨⟨i + 1, by omega, by go_num, D14, DS4, HB4⟩, by simp [Go.RowKit.intOf]; omega⟩
    · obtain rfl : i = 67 := by omega
      clear hi6
      have HE : Hid (endR d 67 = (endN d 67).flatMap id) := aside (by unfold endR; simp)
      have hl := endR_len (d := d) (i := 67) (Nat.le_refl _)
      rw [HE.out] at D1 hl
      obtain ⟨X, hX⟩ : ∃ X, X = (endN d 67).flatMap id := ⟨_, rfl⟩
      rw [← hX] at D1 hl
      have HX := aside hX
      have HS9 : Hid ((Tryd.prog.info? 65).map (·.size) = some (rowY X).size) := aside (by rw [rowY_size, hl]; kernel_rfl)
      clear hX HE
      go_wp2_with (first
        | (refine wpList_load_row rfl 65 (.tmp 4) rfl B0 rfl 65 (rowY X) (0, 0) _ D1.out Tryd.underlying65 rfl HS9.out ?_)
        | (refine wpList_store_row rfl 65 (.tmp 4) (.tmp 19) rfl B0 (rowY X) rfl rfl 65 (rowY X) D1.out HS9.out rfl (rowY_one _) ?_)
        | fail)
      refine bodyPost_ret (results_cell_row rfl _ _ B0 65 (rowY X) (0, 0) _ rfl (setRow_heap wr B0 _ _ _ _ D1.out) Tryd.underlying65 rfl HS9.out) rfl ?_
      exact ⟨by rw [← HX.out] <;> rfl, below_setRow HB.out _ (by rw [EB.out]; exact Nat.le_refl _) _⟩
end Go.Proofs.YtiigggbghgfdoaaDoor
