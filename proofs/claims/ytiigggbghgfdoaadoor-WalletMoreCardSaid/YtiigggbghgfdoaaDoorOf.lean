/- sha.Of and key.Step: the walks. Conditions: named in each theorem. -/
import Derived.Test.YtiigggbghgfdoaaDoorMacB
import Derived.Deep.MidRow
namespace Go.Proofs.YtiigggbghgfdoaaDoor
open Go.RowKit Go.ChangeShapes Go.WideShapes Go.ChangeAt

/-- A digest's cells. -/
def digC (d : List Nat) : List Value := (List.range 32).map fun j => .int .u8 ((d.getD j 0 : Nat) : Int)
theorem digC_len (d : List Nat) : (digC d).length = 32 := by simp [digC]
theorem digC_row {d : List Nat} (h : d.length = 32) : (digC d).toArray = rowY d := by
  refine Array.ext (by rw [rowY_size]; simp [digC_len, h]) fun i h1 h2 => ?_
  have hi : i < d.length := by rw [rowY_size] at h2; exact h2
  have e := rowY_get hi
  rw [Array.getElem?_eq_getElem h2] at e
  injection e with e
  rw [e]
  simp [digC]
theorem digC_one (d : List Nat) : ∀ u ∈ digC d, u.oneCell' = true := fun u hu => by
  obtain ⟨j, _, rfl⟩ := List.mem_map.1 hu
  rfl
/-- A slice of digests. -/
abbrev GSl (w : World) (B : Nat) (A : Option Addr) (n : Nat) (ds : List (List Nat)) : Prop := FSl digC 32 w B A n ds
theorem GSl.range {w : World} {B n : Nat} {A : Option Addr} {ds : List (List Nat)} (h : GSl w B A n ds) {k : Nat} (hk : k < n) :
    ∃ b off, A = some ⟨b, off, none⟩ ∧ b < B ∧ w.rangeAt b (off + k * 32) (digC (ds.getD k [])) := by
  obtain ⟨b, off, e, hb, hc⟩ := FSl.at_ digC_len (by decide) [] h hk
  exact ⟨b, off, e, hb, hc⟩
/-- The digest of a first byte and of digests. -/
def ofL (t : Nat) (ds : List (List Nat)) : List Nat := shaL (t :: ds.flatMap id)
theorem ofL_len (t : Nat) (ds : List (List Nat)) : (ofL t ds).length = 32 := shaL_len _
theorem ofL_small (t : Nat) (ds : List (List Nat)) : ∀ x ∈ ofL t ds, x < 256 := shaL_small _
theorem dig_flat_len {ds : List (List Nat)} (h : ∀ d ∈ ds, d.length = 32) : (ds.flatMap id).length = ds.length * 32 := by
  induction ds with
  | nil => rfl
  | cons d r ih =>
    rw [List.flatMap_cons, List.length_append, ih fun x hx => h x (by simp [hx]), List.length_cons, id, h d (by simp)]
    omega
theorem take_dig {ds : List (List Nat)} {k : Nat} (h : k < ds.length) : (ds.take (k + 1)).flatMap id = (ds.take k).flatMap id ++ ds.getD k [] := by
  rw [List.take_add_one, List.getElem?_eq_getElem h, List.flatMap_append, List.getD_eq_getElem?_getD, List.getElem?_eq_getElem h]
  simp
theorem getD_dig {ds : List (List Nat)} {k : Nat} (h : k < ds.length) : ds.getD k [] ∈ ds := by
  rw [List.getD_eq_getElem?_getD, List.getElem?_eq_getElem h]
  exact List.getElem_mem h
set_option maxHeartbeats 20000000 in
set_option maxRecDepth 100000 in
theorem of_any (t : Nat) (ht : t < 256) (ds : List (List Nat)) (hd : ∀ d ∈ ds, d.length = 32 ∧ ∀ x ∈ d, x < 256) (A : Option Addr) (n c : Nat) (hn : n ≤ 100) (w : World) (h : GSl w w.heap.size A n ds) (hg : RoundsAt w) :
    Calls Tryd.prog 30 #[.int .u8 (t : Int), .slice A n c] w (fun e w' => e = .returned (digV (ofL t ds)) ∧ Below w.heap.size w w') := by
  have hln := FSl.len digC_len (by decide) h
  have hr : 1 < w.heap.size := by
    obtain ⟨T, fr, -, h2⟩ := hg
    exact h2
  have HD := aside hd
  have HLn := aside hln
  have H := aside h
  have HG := aside hg
  have B1 : Hid (Below w.heap.size w ((w.alloc (.cells (rowY (List.replicate 32 0)) 23)).alloc (.cells #[.int .u8 (t : Int)] 5))) := aside (((Below.refl _ _).alloc (Nat.le_refl _) _).alloc (by simp) _)
  have D0 : Hid (BlkY ((w.alloc (.cells (rowY (List.replicate 32 0)) 23)).alloc (.cells #[.int .u8 (t : Int)] 5)) w.heap.size 23 (List.replicate 32 0)) := aside ((BlkY.new w _ _).alloc _)
  have Z1 : Hid (((w.alloc (.cells (rowY (List.replicate 32 0)) 23)).alloc (.cells #[.int .u8 (t : Int)] 5)).heap.size = w.heap.size + 2) := aside (by simp)
  have HO : Hid (YRow ((w.alloc (.cells (rowY (List.replicate 32 0)) 23)).alloc (.cells #[.int .u8 (t : Int)] 5)) (w.heap.size + 1) (.slice (some ⟨w.heap.size + 1, 0, none⟩) 1 1) 1 (t :: (ds.take 0).flatMap id)) := aside (by
    have h : (w.alloc (.cells (rowY (List.replicate 32 0)) 23)).heap.size = w.heap.size + 1 := by simp
    refine ⟨rfl, .inr ⟨w.heap.size + 1, 1, #[.int .u8 (t : Int)], rfl, Nat.le_refl _, ?_, Nat.le_refl _, by decide, rfl, rfl⟩⟩
    have h2 := heap_alloc_new (w.alloc (.cells (rowY (List.replicate 32 0)) 23)) (.cells #[.int .u8 (t : Int)] 5)
    rwa [h] at h2)
  clear h hd hln hg
  go_enter Tryd.func30, Tryd.ntmps30
  go_wp2_with fail
  change Code.wp _ _ _ _ ((w.alloc (.cells (rowY (List.replicate 32 0)) 23)).alloc (.cells #[.int .u8 (t : Int)] 5))
  generalize ((w.alloc (.cells (rowY (List.replicate 32 0)) 23)).alloc (.cells #[.int .u8 (t : Int)] 5)) = w1 at B1 D0 Z1 HO ⊢
  obtain ⟨B0, hB0⟩ : ∃ B0, B0 = w.heap.size := ⟨_, rfl⟩
  have EB := aside hB0
  simp only [← hB0] at D0 Z1 HO ⊢
  rw [← hB0] at hr
  clear hB0
  go_loopw [5, 12] (fun v5 v12 wr => ∃ (i m : Nat) (A1 : Option Addr) (c1 : Nat), i ≤ n ∧ m = 1 + 32 * i ∧ v12 = .int .i64 i ∧ v5 = .slice A1 m c1 ∧ B0 + 2 ≤ wr.heap.size ∧ Hid (YRow wr (B0 + 1) (.slice A1 m c1) m (t :: (ds.take i).flatMap id)) ∧ Hid (BlkY wr B0 23 (List.replicate 32 0)) ∧ Hid (Below w.heap.size w wr)) (fun _ v12 _ => n - (Go.RowKit.intOf v12).toNat)
  case atStart => exact ⟨0, 1, _, 1, Nat.zero_le _, rfl, rfl, rfl, by rw [Z1.out]; exact Nat.le_refl _, HO, D0, B1⟩
  case round =>
    clear HO D0 B1 Z1
    obtain ⟨i, m, A1, c1, hi, hm, rfl, rfl, hz, HO, D0, HB⟩ := hrel
    have Hm := aside hm
    have hm7 : m ≤ 10000 := by omega
    clear hm
    by_cases hin : i < n
    · have i0 : (i : Int) < (n : Int) := by omega
      obtain ⟨b, off, hAe, hbl, hrg⟩ := GSl.range (FSl.below H.out HB.out) hin
      have hdm := HD.out _ (getD_dig (ds := ds) (k := i) (by have := HLn.out; omega))
      have HTk := aside (take_dig (ds := ds) (k := i) (by have := HLn.out; omega))
      generalize ds.getD i [] = d at hrg hdm HTk
      have HRg := aside hrg
      have hdl := hdm.1
      have HDc : Hid ((digC d).toArray = rowY d) := aside (digC_row hdm.1)
      have HS1 : Hid ((Tryd.prog.info? 23).map (·.size) = some (digC d).length) := aside (by rw [digC_len]; kernel_rfl)
      have HS9 : Hid ((Tryd.prog.info? 23).map (·.size) = some (digC d).toArray.size) := aside (by simp only [List.size_toArray, digC_len]; kernel_rfl)
      have HS8 : Hid ((rowY (List.replicate 32 0)).size = (digC d).toArray.size) := aside (by simp only [List.size_toArray, digC_len]; rfl)
      have HO1 : Hid ((digC d).toArray.all (·.oneCell') = true) := aside (all_oneCell_toArray (digC_one d))
      have DX := aside (BlkY.new wr 23 (List.replicate 32 0))
      subst hAe
      clear hrg hdm hbl
      go_upto_region 5 with (first
        | (refine wpList_load_mid rfl 23 (.tmp 14) rfl b (off + i * 32) rfl (digC d) _ HRg.out Tryd.underlying23 rfl HS1.out ?_)
        | (refine wpList_store_row rfl 23 (.tmp 7) (.tmp 15) rfl wr.heap.size (digC d).toArray rfl rfl 23 (rowY (List.replicate 32 0)) DX.out HS9.out HS8.out HO1.out ?_)
        | fail)
      have HB2 : Hid (Below w.heap.size w ((wr.alloc (.cells (rowY (List.replicate 32 0)) 23)).setRow wr.heap.size (digC d).toArray)) := aside (below_setRow (HB.out.alloc HB.out.size _) _ HB.out.size _)
      have DX2 : Hid (BlkY ((wr.alloc (.cells (rowY (List.replicate 32 0)) 23)).setRow wr.heap.size (digC d).toArray) wr.heap.size 23 d) := aside (by rw [HDc.out]; exact setRow_heap _ _ _ _ _ _ DX.out)
      have D02 : Hid (BlkY ((wr.alloc (.cells (rowY (List.replicate 32 0)) 23)).setRow wr.heap.size (digC d).toArray) B0 23 (List.replicate 32 0)) := aside ((setRow_other _ _ _ _ (by omega)).trans (D0.out.alloc _))
      have hzz : wr.heap.size ≤ ((wr.alloc (.cells (rowY (List.replicate 32 0)) 23)).setRow wr.heap.size (digC d).toArray).heap.size := Nat.le_of_lt DX2.out.lt
      have HO2 : Hid (YRow ((wr.alloc (.cells (rowY (List.replicate 32 0)) 23)).setRow wr.heap.size (digC d).toArray) (B0 + 1) (.slice A1 m c1) m (t :: (ds.take i).flatMap id)) := aside (own_below HO.out (below_setRow ((Below.refl _ _).alloc (Nat.le_refl _) _) _ (Nat.le_refl _) _))
      change Code.wp _ _ _ _ ((wr.alloc (.cells (rowY (List.replicate 32 0)) 23)).setRow wr.heap.size (digC d).toArray)
      generalize ((wr.alloc (.cells (rowY (List.replicate 32 0)) 23)).setRow wr.heap.size (digC d).toArray) = w2 at HB2 DX2 D02 hzz HO2 ⊢
      obtain ⟨bx, hbx⟩ : ∃ bx, bx = wr.heap.size := ⟨_, rfl⟩
      rw [← hbx] at DX2 hz hzz ⊢
      clear hbx HO D0 HB DX
      have HSd : Hid (YSl w2 w2.heap.size (some ⟨bx, 0, none⟩) 32 d) := aside (DX2.out.sl hdl DX2.out.lt)
      have H1d : Hid (∀ u ∈ d.flatMap byV, u.oneCell' = true) := aside (fun u hu => by
        obtain ⟨x, -, hx⟩ := List.mem_flatMap.1 hu
        simp only [byV, List.mem_singleton] at hx
        rw [hx]; rfl)
      go_wp2_with (first
        | (at_builtin; refine wpList_concat rfl (.tmp 16) (.tmp 17) 49 rfl (B0 + 1) (.int .u8 0) 1 1 Tryd.underlying49 byteInfo rfl (by decide) _ m _ rfl HO2.out w2.heap.size (some ⟨bx, 0, none⟩) 32 32 _ rfl HSd.out H1d.out (by omega) (by unfold maxLen; omega) (by omega) ?_; intro A3 c3 w3 hc3 hc3' hown3 hb3 hg3)
        | fail)
      have HO3 : Hid (YRow w3 (B0 + 1) (.slice A3 (m + 32) c3) (m + 32) (t :: (ds.take (i + 1)).flatMap id)) := aside (by
        rw [HTk.out]
        show w3.ownsRow _ _ _ _ _ _
        rw [show t :: ((ds.take i).flatMap id ++ d) = (t :: (ds.take i).flatMap id) ++ d from rfl, List.flatMap_append]
        exact hown3)
      have HB3 := aside (HB2.out.trans (hb3.mono (by rw [EB.out]; omega)))
      have D03 := aside (D02.out.below hb3 (by omega))
      have hz3 := Nat.le_trans (Nat.le_trans hz hzz) hb3.size
      clear hown3 hb3 hg3
      exact ⟨⟨i + 1, m + 32, A3, c3, by omega, by rw [Hm.out]; omega, by go_num, rfl, hz3, HO3, D03, HB3⟩, by simp [Go.RowKit.intOf]; omega⟩
    · obtain rfl : n = i := by omega
      have i0 : ((n : Int) < (n : Int)) = False := by simp
      have HTn : Hid ((t :: (ds.take n).flatMap id) = t :: ds.flatMap id) := aside (by rw [← HLn.out, List.take_length])
      have hY := Sl.own HO.out
      have hby : ∀ x ∈ t :: ds.flatMap id, x < 256 := fun x hx => by
        rcases List.mem_cons.1 hx with rfl | hx
        · exact ht
        · obtain ⟨d, hd, hx⟩ := List.mem_flatMap.1 hx
          exact (HD.out d hd).2 x hx
      rw [HTn.out] at hY
      have HSh := aside (sha_any (t :: ds.flatMap id) A1 m c1 wr hY (by omega) hby (HG.out.below HB.out))
      clear hY hby HO
      go_wp2_with fail
      refine HSh.out.mono ?_
      rintro e w9 ⟨rfl, hb9⟩
      have HB9 : Hid (Below w.heap.size w w9) := aside (HB.out.trans (hb9.mono HB.out.size))
      have D09 := aside (D0.out.below hb9 D0.out.lt)
      change Hid (BlkY w9 B0 23 (List.replicate 32 0)) at D09
      obtain ⟨X, hX⟩ : ∃ X, X = ofL t ds := ⟨_, rfl⟩
      rw [show shaL (t :: ds.flatMap id) = X from hX.symm]
      have HX := aside hX
      have hXl : X.length = 32 := by rw [hX]; exact ofL_len _ _
      have HS9 : Hid ((Tryd.prog.info? 23).map (·.size) = some (rowY X).size) := aside (by rw [rowY_size, hXl]; kernel_rfl)
      have HS8 : Hid ((rowY (List.replicate 32 0)).size = (rowY X).size) := aside (by rw [rowY_size, rowY_size, hXl]; rfl)
      clear hb9 HSh hX
      go_wp2_with (first
        | (refine wpList_store_row rfl 23 (.tmp 4) (.tmp 21) rfl B0 (rowY X) rfl rfl 23 (rowY (List.replicate 32 0)) D09.out HS9.out HS8.out (rowY_one _) ?_)
        | fail)
      refine bodyPost_ret (results_cell_row rfl _ _ B0 23 (rowY X) (0, 0) _ rfl (setRow_heap w9 B0 _ _ _ _ D09.out) Tryd.underlying23 rfl HS9.out) rfl ?_
      exact ⟨by rw [← HX.out] <;> rfl, below_setRow HB9.out _ (by rw [EB.out]; exact Nat.le_refl _) _⟩
end Go.Proofs.YtiigggbghgfdoaaDoor
