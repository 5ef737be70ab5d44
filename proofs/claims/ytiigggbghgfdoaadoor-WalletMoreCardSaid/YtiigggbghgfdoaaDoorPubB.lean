/- key.Public: the walk. Conditions: named in each theorem. -/
import Derived.Test.YtiigggbghgfdoaaDoorPub
namespace Go.Proofs.YtiigggbghgfdoaaDoor
open Go.RowKit Go.ChangeShapes Go.WideShapes Go.ChangeAt

theorem digC_u8s {d : List Nat} (h : d.length = 32) : digC d = u8s d := by
  have e := congrArg Array.toList (digC_row h)
  rwa [rowY_list] at e
theorem flat_u8s {ds : List (List Nat)} (h : ∀ d ∈ ds, d.length = 32) : ds.flatMap digC = u8s (ds.flatMap id) := by
  induction ds with
  | nil => rfl
  | cons d r ih =>
    rw [List.flatMap_cons, List.flatMap_cons, ih fun x hx => h x (by simp [hx]), digC_u8s (h d (by simp))]
    simp [u8s]
theorem BlkY.gsls {w : World} {b B n : Nat} {T : TypeId} {ds : List (List Nat)} (h : BlkY w b T (ds.flatMap id)) (hl : ∀ d ∈ ds, d.length = 32) (hn : ds.length = n) (hB : b < B) : GSl w B (some ⟨b, 0, none⟩) n ds := by
  have hfl := dig_flat_len hl
  have hs : w.heap[b]? = some (.cells (rowY (ds.flatMap id)) T (0, 0)) := h
  refine ⟨by rw [flat_u8s hl, ← hn, ← hfl]; unfold u8s; rw [List.length_map], fun _ => ⟨b, 0, rfl, hB, fun j u hu => ?_⟩⟩
  rw [flat_u8s hl] at hu
  have hj := (List.getElem?_eq_some_iff.1 hu).1
  rw [Nat.zero_add, cell_of_row w b j _ _ _ hs]
  unfold rowY
  rw [List.getElem?_toArray]
  exact hu
set_option maxRecDepth 100000 in
theorem secrets_any (d : List Nat) (w : World) : Calls Tryd.prog 28 #[digV d] w (fun e w' => ∃ sb, e = .returned (.func (.func 43) #[] #[.pointer (some ⟨sb, 0, none⟩)]) ∧ BlkY w' sb 23 d ∧ Below w.heap.size w w') := by
  unfold digV
  go_enter Tryd.func28, Tryd.ntmps28
  go_wp2
  go_ret
  exact ⟨w.heap.size, rfl, BlkY.new w _ _, (Below.refl _ _).alloc (Nat.le_refl _) _⟩
/-- The public key of a seed. -/
def pubL (d : List Nat) : List Nat := ofL 7 (endN d 67)
theorem pubL_len (d : List Nat) : (pubL d).length = 32 := ofL_len _ _
theorem pubL_small (d : List Nat) : ∀ x ∈ pubL d, x < 256 := ofL_small _ _
set_option maxHeartbeats 20000000 in
set_option maxRecDepth 100000 in
theorem public_any (d : List Nat) (hd : d.length = 32) (hb : ∀ x ∈ d, x < 256) (w : World) (hg : RoundsAt w) :
    Calls Tryd.prog 16 #[digV d] w (fun e w' => e = .returned (digV (pubL d)) ∧ Below w.heap.size w w') := by
  have HG := aside hg
  have HDb := aside hb
  have HDl := aside hd
  have B1 : Hid (Below w.heap.size w ((w.alloc (.cells (rowY d) 23)).alloc (.cells (rowY (List.replicate 32 0)) 23))) := aside (((Below.refl _ _).alloc (Nat.le_refl _) _).alloc (by simp) _)
  have D0 : Hid (BlkY ((w.alloc (.cells (rowY d) 23)).alloc (.cells (rowY (List.replicate 32 0)) 23)) w.heap.size 23 d) := aside ((BlkY.new w _ _).alloc _)
  have D1 : Hid (BlkY ((w.alloc (.cells (rowY d) 23)).alloc (.cells (rowY (List.replicate 32 0)) 23)) (w.heap.size + 1) 23 (List.replicate 32 0)) := aside (by
    have h := BlkY.new (w.alloc (.cells (rowY d) 23)) 23 (List.replicate 32 0)
    rwa [show (w.alloc (.cells (rowY d) 23)).heap.size = w.heap.size + 1 by simp] at h)
  have HS7 := aside (zinfo d hd)
  clear hg hb hd
  unfold digV
  go_enter Tryd.func16, Tryd.ntmps16
  go_upto_region 1 with fail
  change Code.wp _ _ _ _ ((w.alloc (.cells (rowY d) 23)).alloc (.cells (rowY (List.replicate 32 0)) 23))
  generalize ((w.alloc (.cells (rowY d) 23)).alloc (.cells (rowY (List.replicate 32 0)) 23)) = w1 at B1 D0 D1 ⊢
  obtain ⟨B0, hB0⟩ : ∃ B0, B0 = w.heap.size := ⟨_, rfl⟩
  have EB := aside hB0
  simp only [← hB0] at D0 D1 ⊢
  clear hB0
  go_wp2_with (first
    | (refine wpList_load_row rfl 23 (.tmp 1) rfl B0 rfl 23 (rowY d) (0, 0) _ D0.out Tryd.underlying23 rfl HS7.out ?_)
    | fail)
  refine (show Calls _ _ #[digV d] _ _ from secrets_any d w1).mono ?_
  rintro e w2 ⟨sb, rfl, hs2, hb2⟩
  have HB2 := aside (B1.out.trans (hb2.mono B1.out.size))
  have D12 := aside (D1.out.below hb2 D1.out.lt)
  have DS := aside hs2
  clear hs2 hb2
  go_wp2_with fail
  refine (ends_any d HDl.out HDb.out sb w2 DS.out (HG.out.below HB2.out)).mono ?_
  rintro e w3 ⟨rfl, hb3⟩
  have HB3 := aside (HB2.out.trans (hb3.mono HB2.out.size))
  have D13 := aside (D12.out.below hb3 D12.out.lt)
  clear hb3
  have hEd := endN_dig d 67
  have hEl := endN_len d 67
  have hEf := endN_flat d 67
  obtain ⟨E, hE⟩ : ∃ E, E = endN d 67 := ⟨_, rfl⟩
  rw [← hE] at hEd hEl hEf ⊢
  have HP : Hid (pubL d = ofL 7 E) := aside (by rw [hE]; rfl)
  have HEd := aside hEd
  clear hE hEd
  obtain ⟨X, hX⟩ : ∃ X, X = E.flatMap id := ⟨_, rfl⟩
  have HX := aside hX
  rw [← hX] at hEf ⊢
  clear hX
  have HS9 : Hid ((Tryd.prog.info? 65).map (·.size) = some (rowY X).size) := aside (by rw [rowY_size, hEf]; kernel_rfl)
  have HS8 : Hid ((rowY (List.replicate 2144 0)).size = (rowY X).size) := aside (by rw [rowY_size, rowY_size, hEf]; simp)
  have DX : Hid (BlkY (w3.alloc (.cells Tryd.zeroCells65 65)) w3.heap.size 65 (List.replicate 2144 0)) := aside (by
    rw [zero65]
    exact BlkY.new w3 _ _)
  go_upto_region 2 with (first
    | (refine wpList_store_row rfl 65 (.tmp 3) (.tmp 6) rfl w3.heap.size (rowY X) rfl rfl 65 (rowY (List.replicate 2144 0)) DX.out HS9.out HS8.out (rowY_one _) ?_)
    | fail)
  have hb03 : B0 + 1 < w3.heap.size := D13.out.lt
  have HB4 : Hid (Below w.heap.size w ((w3.alloc (.cells Tryd.zeroCells65 65)).setRow w3.heap.size (rowY X))) := aside (below_setRow (HB3.out.alloc HB3.out.size _) _ HB3.out.size _)
  have DX4 : Hid (BlkY ((w3.alloc (.cells Tryd.zeroCells65 65)).setRow w3.heap.size (rowY X)) w3.heap.size 65 X) := aside (setRow_heap _ _ _ _ _ _ DX.out)
  have D14 : Hid (BlkY ((w3.alloc (.cells Tryd.zeroCells65 65)).setRow w3.heap.size (rowY X)) (B0 + 1) 23 (List.replicate 32 0)) := aside ((setRow_other _ _ _ _ (by omega)).trans (D13.out.alloc _))
  change Code.wp _ _ _ _ ((w3.alloc (.cells Tryd.zeroCells65 65)).setRow w3.heap.size (rowY X))
  generalize ((w3.alloc (.cells Tryd.zeroCells65 65)).setRow w3.heap.size (rowY X)) = w4 at HB4 DX4 D14 ⊢
  obtain ⟨bx, hbx⟩ : ∃ bx, bx = w3.heap.size := ⟨_, rfl⟩
  rw [← hbx] at DX4 hb03 ⊢
  clear hbx DX HS9 HS8 HB3 D13
  have HGs : Hid (GSl w4 w4.heap.size (some ⟨bx, 0, none⟩) 67 E) := aside (by
    have h := DX4.out
    rw [HX.out] at h
    exact h.gsls (fun x hx => (HEd.out x hx).1) hEl h.lt)
  go_wp2_with fail
  refine (show Calls _ _ #[.int .u8 ((7 : Nat) : Int), _] _ _ from of_any 7 (by decide) E HEd.out (some ⟨bx, 0, none⟩) 67 67 (by decide) w4 HGs.out (HG.out.below HB4.out)).mono ?_
  rintro e w9 ⟨rfl, hb9⟩
  have HB9 := aside (HB4.out.trans (hb9.mono HB4.out.size))
  have D09 := aside (D14.out.below hb9 D14.out.lt)
  have hYl := ofL_len 7 E
  have HS9 := aside (zinfo _ hYl)
  have HS8 := aside (zsame _ _ zlen hYl)
  clear hb9
  go_wp2_with (first
    | (refine wpList_store_row rfl 23 (.tmp 2) (.tmp 8) rfl (B0 + 1) (rowY (ofL 7 E)) rfl rfl 23 (rowY (List.replicate 32 0)) D09.out HS9.out HS8.out (rowY_one _) ?_)
    | fail)
  refine bodyPost_ret (results_cell_row rfl _ _ (B0 + 1) 23 (rowY (ofL 7 E)) (0, 0) _ rfl (setRow_heap w9 (B0 + 1) _ _ _ _ D09.out) Tryd.underlying23 rfl HS9.out) rfl ?_
  exact ⟨by rw [HP.out] <;> rfl, below_setRow HB9.out _ (by rw [EB.out]; omega) _⟩
end Go.Proofs.YtiigggbghgfdoaaDoor
