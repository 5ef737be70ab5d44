/- A payment as it is sent, in the reference: the walks. Conditions: named in each theorem. -/
import Derived.Test.YtbpabjhcjffkmaaGreatDoorPayC
import Derived.Test.YtbpabjhcjffkmaaGreatDoorSizO
namespace Go.Proofs.YtbpabjhcjffkmaaGreatDoor
open Go.RowKit Go.ChangeShapes Go.WideShapes Go.ChangeAt

theorem rsize_int (z : Int) (h0 : 0 ≤ z) (h1 : z < 1000000000000000000) (w : World) : Calls Tryz.prog 54 #[.int .i64 z] w (fun e w' => ∃ v, e = .returned v ∧ BRow w' w.heap.size v (sizeL z.toNat) ∧ Below w.heap.size w w') := by
 obtain ⟨n, rfl⟩ := Int.eq_ofNat_of_zero_le h0
 exact rsize_own n (by omega) w
theorem size_int (z : Int) (h0 : 0 ≤ z) (h1 : z < 1000000000000000000) (w : World) : Calls Tryz.prog 115 #[.int .i64 z] w (fun e w' => ∃ v, e = .returned v ∧ BRow w' w.heap.size v (sizeL z.toNat) ∧ Below w.heap.size w w') := by
 obtain ⟨n, rfl⟩ := Int.eq_ofNat_of_zero_le h0
 exact size_own n (by omega) w
/-- A block of the walk's own beside a row that grows. -/
def Box (w : World) (v : Value) (b : Nat) (T : TypeId) (row : Array Value) : Prop := w.heap[b]? = some (.cells row T (0, 0)) ∧ v.ownBlock ≠ some b
theorem Box.grow {w w' : World} {v v' : Value} {b : Nat} {T : TypeId} {row : Array Value} (h : Box w v b T row) (hk : Kept w w' v v') : Box w' v' b T row := by
 have hl : b < w.heap.size := (Array.getElem?_eq_some_iff.1 h.1).1
 exact ⟨(hk.block b hl h.2).trans h.1, hk.apart b hl h.2⟩
theorem Box.call {w w' : World} {v : Value} {b : Nat} {T : TypeId} {row : Array Value} (h : Box w v b T row) (hb : Below w.heap.size w w') : Box w' v b T row :=
 ⟨(hb.block b (Array.getElem?_eq_some_iff.1 h.1).1).trans h.1, h.2⟩
theorem Box.cell {w : World} {v : Value} {b : Nat} {T : TypeId} {row : Array Value} (h : Box w v b T row) {k : Nat} {u : Value} (hk : row[k]? = some u) : w.cell? ⟨b, k, none⟩ = some u := by
 rw [cell_of_row w b k _ _ _ h.1]
 exact hk
theorem Box.lt {w : World} {v : Value} {b : Nat} {T : TypeId} {row : Array Value} (h : Box w v b T row) : b < w.heap.size := (Array.getElem?_eq_some_iff.1 h.1).1
theorem range_y {w : World} {b o : Nat} {d : List Nat} (h : w.rangeAt b o (digC d)) (hd : d.length = 32) {B : Nat} (hB : b < B) : YSl w B (some ⟨b, o, none⟩) 32 d :=
 YSl.of hd hB fun k hk => by
  have := h k (.int .u8 ((d.getD k 0 : Nat) : Int)) (by
   unfold digC
   rw [List.getElem?_map, List.getElem?_range hk]
   rfl)
  exact this
set_option maxHeartbeats 40000000 in
set_option maxRecDepth 100000 in
theorem rtx_any (ins : List RIn) (outs : List ROut) (A B : Option Addr) (n c m cc : Nat) (hn : n ≤ 40) (hm : m ≤ 4) (w : World) (h : NSl w w.heap.size A n ins) (hi : ∀ x ∈ ins, x.tx.length = 32 ∧ 0 ≤ x.at_ ∧ x.at_ < 1000) (ho : OSl w w.heap.size B m outs) (hO : ∀ o ∈ outs, 0 ≤ o.amt ∧ o.amt ≤ 1125899906842624 ∧ LkOk (o.lk.map ROp.pl)) :
  Calls Tryz.prog 49 #[.agg #[.slice A n c, .slice B m cc, .int .i64 0], .bool false] w (fun e w' => ∃ v, e = .returned v ∧ BRow w' w.heap.size v (txB (ins.map RIn.pl) (outs.map ROut.pl)) ∧ Below w.heap.size w w') := by
 have B1 : Hid (Below w.heap.size w (w.alloc (.cells #[.slice A n c, .slice B m cc, .int .i64 0] 32))) := aside ((Below.refl _ _).alloc (Nat.le_refl _) _)
 have D1 : Hid ((w.alloc (.cells #[.slice A n c, .slice B m cc, .int .i64 0] 32)).heap[w.heap.size]? = some (.cells #[.slice A n c, .slice B m cc, .int .i64 0] 32 (0, 0))) := aside (heap_alloc_new _ _)
 have hli := FSl.len encIn_len (by decide) h
 have hlo := ho.len
 have HLi := aside hli
 have HLo := aside hlo
 have HN := aside h
 have HI := aside hi
 have HOo := aside ho
 have HOk := aside hO
 clear h hi ho hO hli hlo
 go_enter Tryz.func49, Tryz.ntmps49
 go_upto_region 1 with fail
 change Code.wp _ _ _ _ (w.alloc (.cells #[.slice A n c, .slice B m cc, .int .i64 0] 32))
 generalize (w.alloc (.cells #[.slice A n c, .slice B m cc, .int .i64 0] 32)) = w1 at B1 D1 ⊢
 obtain ⟨B0, hB0⟩ : ∃ B0, B0 = w.heap.size := ⟨_, rfl⟩
 have EB := aside hB0
 simp only [← hB0] at D1 ⊢
 clear hB0
 have l1 : B0 < w1.heap.size := (Array.getElem?_eq_some_iff.1 D1.out).1
 have HX : Hid (∀ W : World, Below w1.heap.size w1 W → W.cell? ⟨B0, 0, none⟩ = some (.slice A n c) ∧ W.cell? ⟨B0, 1, none⟩ = some (.slice B m cc) ∧ W.cell? ⟨B0, 2, none⟩ = some (.int .i64 0)) := aside fun W hW => by
  have hx := (hW.block B0 l1).trans D1.out
  refine ⟨?_, ?_, ?_⟩
  ·rw [cell_of_row W B0 0 _ _ _ hx]; rfl
  ·rw [cell_of_row W B0 1 _ _ _ hx]; rfl
  ·rw [cell_of_row W B0 2 _ _ _ hx]; rfl
 have x0 := (HX.out w1 (Below.refl _ _)).1
 go_wp2_with fail
 refine (rsize_own n (by omega) w1).mono ?_
 rintro e w2 ⟨v2, rfl, hv2, hb2⟩
 have HV0 : Hid (BRow w2 w1.heap.size v2 (sizeL (ins.map RIn.pl).length ++ ((ins.take 0).map RIn.pl).flatMap inB)) := aside (by rw [List.length_map, HLi.out]; simpa using hv2)
 have HB0 := aside hb2
 have hs0 := sizeL_len n
 have HLn : Hid ((sizeL (ins.map RIn.pl).length ++ ((ins.take 0).map RIn.pl).flatMap inB).length ≤ 10 + 50 * 0) := aside (by rw [List.length_map, HLi.out]; simp; omega)
 clear hv2 hb2 x0
 go_upto_region 3 with fail
 go_loopw [5, 6] (fun v5 v6 wr => ∃ k : Nat, k ≤ n ∧ v6 = .int .i64 k ∧ Hid (BRow wr w1.heap.size v5 (sizeL (ins.map RIn.pl).length ++ ((ins.take k).map RIn.pl).flatMap inB)) ∧ Hid ((sizeL (ins.map RIn.pl).length ++ ((ins.take k).map RIn.pl).flatMap inB).length ≤ 10 + 50 * k) ∧ Hid (Below w1.heap.size w1 wr)) (fun _ v6 _ => n - (Go.RowKit.intOf v6).toNat)
 case atStart => exact ⟨0, Nat.zero_le _, rfl, HV0, HLn, HB0⟩
 case round =>
  clear HV0 HB0 HLn
  obtain ⟨k, hk, rfl, HV, HLn, HB⟩ := hrel
  have x0 := (HX.out wr HB.out).1
  by_cases hkn : k < n
  ·have k0 : (k : Int) < (n : Int) := by omega
   have HBw : Hid (Below w.heap.size w wr) := aside (B1.out.trans (HB.out.mono B1.out.size))
   obtain ⟨b, of, hAe, hb1, hrg⟩ := NSl.at_ (FSl.below HN.out HBw.out) hkn
   obtain ⟨ht32, hat0, hat1⟩ := HI.out _ (gd_mem noIn (l := ins) (k := k) (by have := HLi.out; omega))
   have hnx : ((ins.take (k + 1)).map RIn.pl).flatMap inB = ((ins.take k).map RIn.pl).flatMap inB ++ inB (ins.getD k noIn).pl := by
    rw [take_getD noIn (by have := HLi.out; omega), List.map_append, List.flatMap_append]
    simp
   generalize ins.getD k noIn = r at *
   obtain ⟨xs, hxs⟩ : ∃ xs, xs = sizeL (ins.map RIn.pl).length ++ ((ins.take k).map RIn.pl).flatMap inB := ⟨_, rfl⟩
   have HXs := aside hxs.symm
   rw [← hxs] at HV HLn
   clear hxs
   have HRg := aside hrg
   have HNx := aside hnx
   have HS1 : Hid ((Tryz.prog.info? 63).map (·.size) = some (encIn r).length) := aside (by rw [encIn_len]; kernel_rfl)
   have HS9 : Hid ((Tryz.prog.info? 63).map (·.size) = some (encIn r).toArray.size) := aside (by simp only [List.size_toArray, encIn_len]; kernel_rfl)
   have HS8 : Hid ((encIn noIn).toArray.size = (encIn r).toArray.size) := aside (by simp only [List.size_toArray, encIn_len])
   have HO1 : Hid ((encIn r).toArray.all (·.oneCell') = true) := aside (all_oneCell_toArray (encIn_one r))
   have DX : Hid ((wr.alloc (.cells (encIn noIn).toArray 63)).heap[wr.heap.size]? = some (.cells (encIn noIn).toArray 63 (0, 0))) := aside (heap_alloc_new _ _)
   subst hAe
   clear hrg hnx hb1 HBw
   go_upto_region 6 with (first
    | (refine wpList_load_mid rfl 63 (.tmp 27) rfl b (of + k * 34) rfl (encIn r) _ HRg.out Tryz.underlying63 rfl HS1.out ?_)
    | (refine wpList_store_row rfl 63 (.tmp 7) (.tmp 28) rfl wr.heap.size (encIn r).toArray rfl rfl 63 (encIn noIn).toArray DX.out HS9.out HS8.out HO1.out ?_)
    | fail)
   have HB2 : Hid (Below wr.heap.size wr ((wr.alloc (.cells (encIn noIn).toArray 63)).setRow wr.heap.size (encIn r).toArray)) := aside (below_setRow ((Below.refl _ _).alloc (Nat.le_refl _) _) _ (Nat.le_refl _) _)
   have DX2 : Hid (((wr.alloc (.cells (encIn noIn).toArray 63)).setRow wr.heap.size (encIn r).toArray).heap[wr.heap.size]? = some (.cells (encIn r).toArray 63 (0, 0))) := aside (setRow_heap _ _ _ _ _ _ DX.out)
   change Code.wp _ _ _ _ ((wr.alloc (.cells (encIn noIn).toArray 63)).setRow wr.heap.size (encIn r).toArray)
   generalize ((wr.alloc (.cells (encIn noIn).toArray 63)).setRow wr.heap.size (encIn r).toArray) = w3 at HB2 DX2 ⊢
   obtain ⟨b7, hb7⟩ : ∃ b7, b7 = wr.heap.size := ⟨_, rfl⟩
   rw [← hb7] at DX2 ⊢
   have HV3 : Hid (BRow w3 w1.heap.size u5 xs) := aside (HV.out.below HB2.out)
   have X7 : Hid (Box w3 u5 b7 63 (encIn r).toArray) := aside ⟨DX2.out, fun e => by have := HV.out.lt _ e; omega⟩
   have HB3 : Hid (Below w1.heap.size w1 w3) := aside (HB.out.trans (HB2.out.mono HB.out.size))
   have HRd : Hid (w3.rangeAt b7 0 (digC r.tx)) := aside (fun j v hj => by
    rw [Nat.zero_add]
    exact X7.out.cell (by rw [List.getElem?_toArray]; exact encIn_tx r hj))
   have HT1 : Hid ((Tryz.prog.info? 23).map (·.size) = some (digC r.tx).length) := aside (by rw [digC_len]; kernel_rfl)
   have HT9 : Hid ((Tryz.prog.info? 23).map (·.size) = some (digC r.tx).toArray.size) := aside (by simp only [List.size_toArray, digC_len]; kernel_rfl)
   have HT8 : Hid ((rowY (List.replicate 32 0)).size = (digC r.tx).toArray.size) := aside (by simp only [List.size_toArray, digC_len]; rfl)
   have HO2 : Hid ((digC r.tx).toArray.all (·.oneCell') = true) := aside (all_oneCell_toArray (digC_one r.tx))
   have DY := aside (BlkY.new w3 23 (List.replicate 32 0))
   have HDc : Hid ((digC r.tx).toArray = rowY r.tx) := aside (digC_row ht32)
   clear hb7 DX HS1 HS9 HS8 HO1 HRg DX2 HV HB2 HB
   go_upto_region 7 with (first
    | (refine wpList_load_mid rfl 23 (.tmp 30) rfl b7 0 rfl (digC r.tx) _ HRd.out Tryz.underlying23 rfl HT1.out ?_)
    | (refine wpList_store_row rfl 23 (.tmp 8) (.tmp 31) rfl w3.heap.size (digC r.tx).toArray rfl rfl 23 (rowY (List.replicate 32 0)) DY.out HT9.out HT8.out HO2.out ?_)
    | fail)
   have HB4 : Hid (Below w3.heap.size w3 ((w3.alloc (.cells (rowY (List.replicate 32 0)) 23)).setRow w3.heap.size (digC r.tx).toArray)) := aside (below_setRow ((Below.refl _ _).alloc (Nat.le_refl _) _) _ (Nat.le_refl _) _)
   have DY2 : Hid (BlkY ((w3.alloc (.cells (rowY (List.replicate 32 0)) 23)).setRow w3.heap.size (digC r.tx).toArray) w3.heap.size 23 r.tx) := aside (by rw [HDc.out]; exact setRow_heap _ _ _ _ _ _ DY.out)
   change Code.wp _ _ _ _ ((w3.alloc (.cells (rowY (List.replicate 32 0)) 23)).setRow w3.heap.size (digC r.tx).toArray)
   generalize ((w3.alloc (.cells (rowY (List.replicate 32 0)) 23)).setRow w3.heap.size (digC r.tx).toArray) = w4 at HB4 DY2 ⊢
   obtain ⟨b8, hb8⟩ : ∃ b8, b8 = w3.heap.size := ⟨_, rfl⟩
   rw [← hb8] at DY2 ⊢
   have HV4 := aside (HV3.out.below HB4.out)
   have X74 := aside (X7.out.call HB4.out)
   have HB5 : Hid (Below w1.heap.size w1 w4) := aside (HB3.out.trans (HB4.out.mono HB3.out.size))
   have HYd : Hid (YSl w4 w4.heap.size (some ⟨b8, 0, none⟩) 32 r.tx) := aside (DY2.out.sl ht32 DY2.out.lt)
   have hz4 := HB5.out.size
   have hxl := HLn.out
   clear hb8 DY HT1 HT9 HT8 HO2 HRd DY2 HV3 X7 HB4 HB3
   go_upto_region 8 with (first
    | (at_builtin; refine wpList_bcat rfl (.tmp 32) (.tmp 33) rfl w1.heap.size rfl HV4.out rfl rfl HYd.out (by omega) hz4 ?_; intro vp wp hvp hbp hkp)
    | fail)
   have X75 := aside (X74.out.grow hkp)
   have HV5 := aside hvp
   have HB6 : Hid (Below w1.heap.size w1 wp) := aside (HB5.out.trans hbp)
   have x32 : wp.cell? ⟨b7, 32, none⟩ = some (.int .i64 r.at_) := X75.out.cell (by rw [List.getElem?_toArray]; exact encIn_at r)
   clear hvp hbp hkp X74 HV4 HYd HB5 hz4
   go_wp2_with fail
   refine (rsize_int r.at_ hat0 (by omega) wp).mono ?_
   rintro e w6 ⟨v6, rfl, hv6, hb6⟩
   have HV6 := aside (HV5.out.below hb6)
   have HU6 := aside hv6
   have HB7 : Hid (Below w1.heap.size w1 w6) := aside (HB6.out.trans (hb6.mono HB6.out.size))
   have hz6 := HB7.out.size
   have hs6 := sizeL_len r.at_.toNat
   have hl6 : (xs ++ r.tx).length ≤ 10 + 50 * k + 32 := by rw [List.length_append, ht32]; omega
   clear hv6 hb6 HV5 HB6 x32
   go_upto_region 9 with (first
    | (at_builtin; refine wpList_bcat2 rfl (.tmp 35) (.tmp 39) rfl w1.heap.size rfl HV6.out rfl HU6.out (by omega) hz6 ?_; intro v7 w7 hv7 hb7 hk7)
    | fail)
   have HB8 : Hid (Below w1.heap.size w1 w7) := aside (HB7.out.trans hb7)
   have HV8 : Hid (BRow (w7.alloc (.cells #[.int .u8 0] 5)) w1.heap.size v7 (xs ++ r.tx ++ sizeL r.at_.toNat)) := aside (hv7.below ((Below.refl _ _).alloc (Nat.le_refl _) _))
   have HY8 : Hid (YSl (w7.alloc (.cells #[.int .u8 0] 5)) (w7.alloc (.cells #[.int .u8 0] 5)).heap.size (some ⟨w7.heap.size, 0, none⟩) 1 [0]) := aside (Sl.own (row_one w7 0))
   have HB9 : Hid (Below w1.heap.size w1 (w7.alloc (.cells #[.int .u8 0] 5))) := aside (HB8.out.alloc HB8.out.size _)
   have hz9 := HB9.out.size
   have hl7 : (xs ++ r.tx ++ sizeL r.at_.toNat).length ≤ 10 + 50 * k + 41 := by rw [List.length_append]; omega
   have hl0 : ([0] : List Nat).length = 1 := rfl
   clear hv7 hb7 hk7 HV6 HU6 HB7 HB8 hz6
   go_wp2_with (first
    | (at_builtin; refine wpList_bcat rfl (.tmp 43) (.tmp 44) rfl w1.heap.size rfl HV8.out rfl rfl HY8.out (by omega) hz9 ?_; intro v10 w10 hv10 hb10 hk10)
    | fail)
   have HV11 : Hid (BRow w10 w1.heap.size v10 (sizeL (ins.map RIn.pl).length ++ ((ins.take (k + 1)).map RIn.pl).flatMap inB)) := aside (by
    rw [HNx.out, ← List.append_assoc, HXs.out]
    have e9 : xs ++ inB r.pl = xs ++ r.tx ++ sizeL r.at_.toNat ++ [0] := by unfold inB RIn.pl; simp
    rw [e9]
    exact hv10)
   have HL11 : Hid ((sizeL (ins.map RIn.pl).length ++ ((ins.take (k + 1)).map RIn.pl).flatMap inB).length ≤ 10 + 50 * (k + 1)) := aside (by
    rw [HNx.out, ← List.append_assoc, HXs.out, List.length_append]
    have := inB_len (x := r.pl) ht32
    omega)
   exact ⟨⟨k + 1, by omega, by go_num, HV11, HL11, aside (HB9.out.trans hb10)⟩, by simp [Go.RowKit.intOf]; omega⟩
  ·obtain rfl : n = k := by omega
   have i0 : ((n : Int) < (n : Int)) = False := by simp
   rw [List.take_of_length_le (Nat.le_of_eq HLi.out)] at HV HLn
   obtain ⟨ys, hys⟩ : ∃ ys, ys = sizeL (ins.map RIn.pl).length ++ (ins.map RIn.pl).flatMap inB := ⟨_, rfl⟩
   have HYs := aside hys.symm
   rw [← hys] at HV HLn
   clear hys hkn
   have x1 := (HX.out wr HB.out).2.1
   go_wp2_with fail
   refine (rsize_own m (by omega) wr).mono ?_
   rintro e w3 ⟨v3, rfl, hv3, hb3⟩
   have HV3 := aside (HV.out.below hb3)
   have HU3 := aside hv3
   have HB3 : Hid (Below w1.heap.size w1 w3) := aside (HB.out.trans (hb3.mono HB.out.size))
   have hz3 := HB3.out.size
   have hs3 := sizeL_len m
   have hl3 := HLn.out
   clear hv3 hb3 x1 HV HB
   go_upto_region 18 with (first
    | (at_builtin; refine wpList_bcat2 rfl (.tmp 67) (.tmp 71) rfl w1.heap.size rfl HV3.out rfl HU3.out (by omega) hz3 ?_; intro v4 w4 hv4 hb4 hk4)
    | fail)
   have HV0 : Hid (BRow w4 w1.heap.size v4 (ys ++ sizeL (outs.map ROut.pl).length ++ ((outs.take 0).map ROut.pl).flatMap outB)) := aside (by rw [List.length_map, HLo.out]; simpa using hv4)
   have HL0 : Hid ((ys ++ sizeL (outs.map ROut.pl).length ++ ((outs.take 0).map ROut.pl).flatMap outB).length ≤ 3000 + 25000 * 0) := aside (by
    rw [List.length_map, HLo.out]
    simp
    omega)
   have HB4 : Hid (Below w1.heap.size w1 w4) := aside (HB3.out.trans hb4)
   clear hv4 hb4 hk4 HV3 HU3 HB3 hz3
   go_loopw [5, 10] (fun v5 v10 wx => ∃ k : Nat, k ≤ m ∧ v10 = .int .i64 k ∧ Hid (BRow wx w1.heap.size v5 (ys ++ sizeL (outs.map ROut.pl).length ++ ((outs.take k).map ROut.pl).flatMap outB)) ∧ Hid ((ys ++ sizeL (outs.map ROut.pl).length ++ ((outs.take k).map ROut.pl).flatMap outB).length ≤ 3000 + 25000 * k) ∧ Hid (Below w1.heap.size w1 wx)) (fun _ v10 _ => m - (Go.RowKit.intOf v10).toNat)
   case atStart => exact ⟨0, Nat.zero_le _, rfl, HV0, HL0, HB4⟩
   case round =>
    clear HV0 HB4 HL0
    obtain ⟨k, hk, rfl, HV, HLn, HB⟩ := hrel
    have x1 := (HX.out wr HB.out).2.1
    by_cases hkn : k < m
    ·have k0 : (k : Int) < (m : Int) := by omega
     have HBw : Hid (Below w.heap.size w wr) := aside (B1.out.trans (HB.out.mono B1.out.size))
     obtain ⟨b, of, hAe, hb1, p0, p1⟩ := (HOo.out.below HBw.out).at_ hkn
     obtain ⟨ha0, ha1, hlk⟩ := HOk.out _ (gd_mem noOut (l := outs) (k := k) (by have := HLo.out; omega))
     have hrl := HOo.out.lock _ (gd_mem noOut (l := outs) (k := k) (by have := HLo.out; omega))
     have hnx : ((outs.take (k + 1)).map ROut.pl).flatMap outB = ((outs.take k).map ROut.pl).flatMap outB ++ outB (outs.getD k noOut).pl := by
      rw [take_getD noOut (by have := HLo.out; omega), List.map_append, List.flatMap_append]
      simp
     generalize outs.getD k noOut = r at *
     obtain ⟨xs, hxs⟩ : ∃ xs, xs = ys ++ sizeL (outs.map ROut.pl).length ++ ((outs.take k).map ROut.pl).flatMap outB := ⟨_, rfl⟩
     have HXs := aside hxs.symm
     rw [← hxs] at HV HLn
     have HNx := aside hnx
     have HRl := aside hrl
     have HLk := aside hlk
     have hll : r.ln ≤ 60 := by
      have h1 := hrl.len
      have h2 := hlk.1
      rw [List.length_map] at h2
      omega
     have HLl : Hid (r.lk.length = r.ln) := aside hrl.len
     have hbz : b < wr.heap.size := by have := HBw.out.size; omega
     have B11 : Hid (Below wr.heap.size wr (wr.alloc (.cells #[.int .i64 r.amt, .slice r.lA r.ln r.lc] 27))) := aside ((Below.refl _ _).alloc (Nat.le_refl _) _)
     have X0 : Hid (Box (wr.alloc (.cells #[.int .i64 r.amt, .slice r.lA r.ln r.lc] 27)) u5 wr.heap.size 27 #[.int .i64 r.amt, .slice r.lA r.ln r.lc]) := aside ⟨heap_alloc_new _ _, fun e => by have := HV.out.lt _ e; omega⟩
     subst hAe
     clear hxs hnx hrl hlk hb1 HBw
     go_upto_region 21 with fail
     change Code.wp _ _ _ _ (wr.alloc (.cells #[.int .i64 r.amt, .slice r.lA r.ln r.lc] 27))
     generalize (wr.alloc (.cells #[.int .i64 r.amt, .slice r.lA r.ln r.lc] 27)) = w3 at B11 X0 ⊢
     obtain ⟨bo, hbo⟩ : ∃ bo, bo = wr.heap.size := ⟨_, rfl⟩
     rw [← hbo] at X0 ⊢
     have HV3 := aside (HV.out.below B11.out)
     have HB3 : Hid (Below w1.heap.size w1 w3) := aside (HB.out.trans (B11.out.mono HB.out.size))
     have y0 : w3.cell? ⟨bo, 0, none⟩ = some (.int .i64 r.amt) := X0.out.cell rfl
     clear hbo HV HB p0 p1 B11 hbz x1
     go_wp2_with fail
     refine (rsize_int r.amt ha0 (by omega) w3).mono ?_
     rintro e w4 ⟨v4, rfl, hv4, hb4⟩
     have HV4 := aside (HV3.out.below hb4)
     have HU4 := aside hv4
     have X4 := aside (X0.out.call hb4)
     have HB4 : Hid (Below w1.heap.size w1 w4) := aside (HB3.out.trans (hb4.mono HB3.out.size))
     have hz4 := HB4.out.size
     have hs4 := sizeL_len r.amt.toNat
     have hl4 := HLn.out
     clear hv4 hb4 HV3 HB3 y0 X0
     go_upto_region 22 with (first
      | (at_builtin; refine wpList_bcat2 rfl (.tmp 85) (.tmp 88) rfl w1.heap.size rfl HV4.out rfl HU4.out (by omega) hz4 ?_; intro vb wb hvb hbb hkb)
      | fail)
     have X5 := aside (X4.out.grow hkb)
     have HV5 := aside hvb
     have HB5 : Hid (Below w1.heap.size w1 wb) := aside (HB4.out.trans hbb)
     have y1 : wb.cell? ⟨bo, 1, none⟩ = some (.slice r.lA r.ln r.lc) := X5.out.cell rfl
     clear hvb hbb hkb X4 HV4 HU4 HB4 hz4
     go_wp2_with fail
     refine (rsize_own r.ln (by omega) wb).mono ?_
     rintro e w6 ⟨v6, rfl, hv6, hb6⟩
     have HV6 := aside (HV5.out.below hb6)
     have HU6 := aside hv6
     have X6 := aside (X5.out.call hb6)
     have HB6 : Hid (Below w1.heap.size w1 w6) := aside (HB5.out.trans (hb6.mono HB5.out.size))
     have hz6 := HB6.out.size
     have hs6 := sizeL_len r.ln
     have hl6 : (xs ++ sizeL r.amt.toNat).length ≤ 3000 + 25000 * k + 9 := by rw [List.length_append]; omega
     clear hv6 hb6 HV5 HB5 y1 X5
     go_upto_region 24 with (first
      | (at_builtin; refine wpList_bcat2 rfl (.tmp 90) (.tmp 94) rfl w1.heap.size rfl HV6.out rfl HU6.out (by omega) hz6 ?_; intro v7 w7 hv7 hb7 hk7)
      | fail)
     have hPm : r.lk.map ROp.pl = r.pl.2 := rfl
     have HV0 : Hid (BRow w7 w1.heap.size v7 (xs ++ sizeL r.amt.toNat ++ sizeL r.ln ++ ((r.lk.take 0).map ROp.pl).flatMap opB)) := aside (by simpa using hv7)
     have HL0 : Hid ((xs ++ sizeL r.amt.toNat ++ sizeL r.ln ++ ((r.lk.take 0).map ROp.pl).flatMap opB).length ≤ 3000 + 25000 * k + 18 + 400 * 0) := aside (by
      simp only [List.take_zero, List.map_nil, List.flatMap_nil, List.append_nil, List.length_append] at hl6 ⊢
      omega)
     have X7 := aside (X6.out.grow hk7)
     have HB7 : Hid (Below w1.heap.size w1 w7) := aside (HB6.out.trans hb7)
     clear hv7 hb7 hk7 HV6 HU6 HB6 X6 hz6 hPm
     go_loopw [5, 12] (fun v5 v12 wy => ∃ j : Nat, j ≤ r.ln ∧ v12 = .int .i64 j ∧ Hid (BRow wy w1.heap.size v5 (xs ++ sizeL r.amt.toNat ++ sizeL r.ln ++ ((r.lk.take j).map ROp.pl).flatMap opB)) ∧ Hid ((xs ++ sizeL r.amt.toNat ++ sizeL r.ln ++ ((r.lk.take j).map ROp.pl).flatMap opB).length ≤ 3000 + 25000 * k + 18 + 400 * j) ∧ Hid (Box wy v5 bo 27 #[.int .i64 r.amt, .slice r.lA r.ln r.lc]) ∧ Hid (Below w1.heap.size w1 wy)) (fun _ v12 _ => r.ln - (Go.RowKit.intOf v12).toNat)
     case atStart => exact ⟨0, Nat.zero_le _, rfl, HV0, HL0, X7, HB7⟩
     case round =>
      clear HV0 HL0 X7 HB7
      obtain ⟨j, hj, rfl, HV, HLj, X7, HB⟩ := hrel
      have y1 : wr.cell? ⟨bo, 1, none⟩ = some (.slice r.lA r.ln r.lc) := X7.out.cell rfl
      by_cases hjn : j < r.ln
      ·have j0 : (j : Int) < (r.ln : Int) := by omega
       have HBw : Hid (Below w.heap.size w wr) := aside (B1.out.trans (HB.out.mono B1.out.size))
       obtain ⟨bl, ol, hAe, hbl, q0, q1, q2⟩ := (HRl.out.below HBw.out).at_ hjn
       have hmem := HRl.out.mem hjn
       have hpm := HLk.out.2 _ (List.mem_map_of_mem (f := ROp.pl) hmem)
       have hda := HRl.out.data _ hmem
       have hnx := pl_next (rs := r.lk) (k := j) (by have := HLl.out; omega)
       have hnx2 : ((r.lk.take (j + 1)).map ROp.pl).flatMap opB = ((r.lk.take j).map ROp.pl).flatMap opB ++ opB (r.lk.getD j noR).pl := by
        rw [hnx, List.flatMap_append]
        simp
       have hr8 : ∀ W : World, Below w1.heap.size w1 W → W.cell? ⟨bl, ol + j * 3 + 1, none⟩ = some (.int .i64 (r.lk.getD j noR).n) ∧ W.cell? ⟨bl, ol + j * 3 + 2, none⟩ = some (.slice (r.lk.getD j noR).dA (r.lk.getD j noR).dn (r.lk.getD j noR).dc) ∧ YSl W W.heap.size (r.lk.getD j noR).dA (r.lk.getD j noR).dn (r.lk.getD j noR).data := fun W hW => by
        have hW2 := B1.out.trans (hW.mono B1.out.size)
        obtain ⟨bl', ol', hAe', -, -, q1', q2'⟩ := (HRl.out.below hW2).at_ hjn
        rw [hAe] at hAe'
        injection hAe' with e9
        injection e9 with e1 e2
        rw [← e1, ← e2] at q1' q2'
        exact ⟨q1', q2', (Sl.below (HRl.out.data _ (HRl.out.mem hjn)) hW2).more hW2.size⟩
       generalize r.lk.getD j noR = o at *
       obtain ⟨zs, hzs⟩ : ∃ zs, zs = xs ++ sizeL r.amt.toNat ++ sizeL r.ln ++ ((r.lk.take j).map ROp.pl).flatMap opB := ⟨_, rfl⟩
       have HZs := aside hzs.symm
       rw [← hzs] at HV HLj
       have HN2 := aside hnx2
       obtain ⟨o1, o2, o3, o4, o5⟩ : 1 ≤ o.op ∧ o.op ≤ 14 ∧ 0 ≤ o.n ∧ o.n ≤ 1073741824 ∧ o.data.length ≤ 300 := hpm
       have HOB : Hid (opB o.pl = sizeL o.op.toNat ++ sizeL o.n.toNat ++ (sizeL o.data.length ++ o.data)) := aside rfl
       have HSo : Hid (sizeL o.op.toNat = [o.op.toNat]) := aside (by
        have h9 : o.op.toNat < 253 := by omega
        simp [sizeL, headN, wideN, h9, bigL])
       have hdl := YSl.len1 hda
       have HDa := aside hda
       have hw8 : IntKind.u8.wrap o.op = ((o.op.toNat : Nat) : Int) := by rw [IntKind.wrap_u8]; omega
       have hopn : o.op = ((o.op.toNat : Nat) : Int) := by omega
       generalize o.op.toNat = on at *
       have hbz : bl < wr.heap.size := by have := HBw.out.size; omega
       have HR8 := aside hr8
       have HWb : Hid (Below wr.heap.size wr (wr.alloc (.cells #[.int .u8 (on : Int)] 5))) := aside ((Below.refl _ _).alloc (Nat.le_refl _) _)
       have HVa : Hid (BRow (wr.alloc (.cells #[.int .u8 (on : Int)] 5)) w1.heap.size u5 zs) := aside (HV.out.below HWb.out)
       have HYa : Hid (YSl (wr.alloc (.cells #[.int .u8 (on : Int)] 5)) (wr.alloc (.cells #[.int .u8 (on : Int)] 5)).heap.size (some ⟨wr.heap.size, 0, none⟩) 1 [on]) := aside (Sl.own (row_one wr on))
       have HBa : Hid (Below w1.heap.size w1 (wr.alloc (.cells #[.int .u8 (on : Int)] 5))) := aside (HB.out.trans (HWb.out.mono HB.out.size))
       have Xa := aside (X7.out.call HWb.out)
       have hza := HBa.out.size
       have hl0 : ([on] : List Nat).length = 1 := rfl
       have hlz := HLj.out
       have HAe := aside hAe
       rw [hAe] at y1
       clear hAe
       clear hzs hnx hnx2 hda hbl hbz hmem hr8 HBw X7 HV HB hopn
       go_upto_region 27 with (first
        | (at_builtin; refine wpList_bcat rfl (.tmp 103) (.tmp 111) rfl w1.heap.size rfl HVa.out rfl rfl HYa.out (by omega) hza ?_; intro vb wb hvb hbb hkb)
        | fail)
       have HVb := aside hvb
       have HBb : Hid (Below w1.heap.size w1 wb) := aside (HBa.out.trans hbb)
       have Xb := aside (Xa.out.grow hkb)
       have y2 : wb.cell? ⟨bo, 1, none⟩ = some (.slice r.lA r.ln r.lc) := Xb.out.cell rfl
       have q3 := (HR8.out wb HBb.out).1
       rw [HAe.out] at y2
       clear hvb hbb hkb Xa HVa HYa HBa HWb hza q0 q1 q2 y1
       go_wp2_with fail
       refine (rsize_int o.n o3 (by omega) wb).mono ?_
       rintro e wc ⟨vc, rfl, hvc, hbc⟩
       have HVc := aside (HVb.out.below hbc)
       have HUc := aside hvc
       have Xc := aside (Xb.out.call hbc)
       have HBc : Hid (Below w1.heap.size w1 wc) := aside (HBb.out.trans (hbc.mono HBb.out.size))
       have hzc := HBc.out.size
       have hsc := sizeL_len o.n.toNat
       have hlc : (zs ++ [on]).length ≤ 3000 + 25000 * k + 18 + 400 * j + 1 := by rw [List.length_append]; omega
       clear hvc hbc Xb HVb HBb y2 q3
       go_upto_region 28 with (first
        | (at_builtin; refine wpList_bcat2 rfl (.tmp 113) (.tmp 120) rfl w1.heap.size rfl HVc.out rfl HUc.out (by omega) hzc ?_; intro vd wd hvd hbd hkd)
        | fail)
       have HVd := aside hvd
       have HBd : Hid (Below w1.heap.size w1 wd) := aside (HBc.out.trans hbd)
       have Xd := aside (Xc.out.grow hkd)
       have y2 : wd.cell? ⟨bo, 1, none⟩ = some (.slice r.lA r.ln r.lc) := Xd.out.cell rfl
       obtain ⟨-, q4, hyd⟩ := HR8.out wd HBd.out
       rw [HAe.out] at y2
       have HPk := aside (rpack_any o.data o.dA o.dn o.dc wd hyd (by omega))
       clear hvd hbd hkd Xc HVc HUc HBc hzc hyd
       go_wp2_with fail
       refine HPk.out.mono ?_
       rintro e we ⟨ve, rfl, hve, hbe⟩
       have HVe := aside (HVd.out.below hbe)
       have HUe := aside hve
       have Xe := aside (Xd.out.call hbe)
       have HBe : Hid (Below w1.heap.size w1 we) := aside (HBd.out.trans (hbe.mono HBd.out.size))
       have hze := HBe.out.size
       have hse := sizeL_len o.dn
       have hle : (zs ++ [on] ++ sizeL o.n.toNat).length ≤ 3000 + 25000 * k + 18 + 400 * j + 10 := by rw [List.length_append]; omega
       have hlf : (sizeL o.dn ++ o.data).length ≤ 310 := by rw [List.length_append]; omega
       clear hve hbe Xd HVd HBd y2 q4 HPk
       go_wp2_with (first
        | (at_builtin; refine wpList_bcat2 rfl (.tmp 122) (.tmp 129) rfl w1.heap.size rfl HVe.out rfl HUe.out (by omega) hze ?_; intro vf wf hvf hbf hkf)
        | fail)
       have Xf := aside (Xe.out.grow hkf)
       have eqf : xs ++ sizeL r.amt.toNat ++ sizeL r.ln ++ ((r.lk.take (j + 1)).map ROp.pl).flatMap opB = zs ++ [on] ++ sizeL o.n.toNat ++ (sizeL o.dn ++ o.data) := by
        rw [HN2.out, ← List.append_assoc, HZs.out, HOB.out, HSo.out, hdl]
        simp
       have HVf : Hid (BRow wf w1.heap.size vf (xs ++ sizeL r.amt.toNat ++ sizeL r.ln ++ ((r.lk.take (j + 1)).map ROp.pl).flatMap opB)) := aside (by rw [eqf]; exact hvf)
       have HLf : Hid ((xs ++ sizeL r.amt.toNat ++ sizeL r.ln ++ ((r.lk.take (j + 1)).map ROp.pl).flatMap opB).length ≤ 3000 + 25000 * k + 18 + 400 * (j + 1)) := aside (by
        rw [eqf, List.length_append]
        omega)
       exact ⟨⟨j + 1, by omega, by go_num, HVf, HLf, Xf, aside (HBe.out.trans hbf)⟩, by simp [Go.RowKit.intOf]; omega⟩
      ·obtain rfl : r.ln = j := by omega
       have i0 : ((r.ln : Int) < (r.ln : Int)) = False := by simp
       have eqo : ys ++ sizeL (outs.map ROut.pl).length ++ ((outs.take (k + 1)).map ROut.pl).flatMap outB = xs ++ sizeL r.amt.toNat ++ sizeL r.ln ++ ((r.lk.take r.ln).map ROp.pl).flatMap opB := by
        rw [HNx.out, ← List.append_assoc, HXs.out, List.take_of_length_le (Nat.le_of_eq HLl.out)]
        show xs ++ (sizeL r.amt.toNat ++ sizeL (r.lk.map ROp.pl).length ++ (r.lk.map ROp.pl).flatMap opB) = _
        rw [List.length_map, HLl.out]
        simp
       have HVf : Hid (BRow wr w1.heap.size u5 (ys ++ sizeL (outs.map ROut.pl).length ++ ((outs.take (k + 1)).map ROut.pl).flatMap outB)) := aside (by rw [eqo]; exact HV.out)
       have HLf : Hid ((ys ++ sizeL (outs.map ROut.pl).length ++ ((outs.take (k + 1)).map ROut.pl).flatMap outB).length ≤ 3000 + 25000 * (k + 1)) := aside (by
        have h9 := HLj.out
        rw [eqo]
        omega)
       clear hjn HLj HV eqo
       go_wp2
       exact ⟨⟨k + 1, by omega, by go_num, HVf, HLf, HB⟩, by simp [Go.RowKit.intOf]; omega⟩
    ·obtain rfl : m = k := by omega
     have i0 : ((m : Int) < (m : Int)) = False := by simp
     rw [List.take_of_length_le (Nat.le_of_eq HLo.out)] at HV HLn
     have hTx : txB (ins.map RIn.pl) (outs.map ROut.pl) = ys ++ sizeL (outs.map ROut.pl).length ++ (outs.map ROut.pl).flatMap outB ++ sizeL 0 := by
      rw [sizeL_zero, ← HYs.out]
      rfl
     have HTx := aside hTx
     have x2 := (HX.out wr HB.out).2.2
     generalize ys ++ sizeL (outs.map ROut.pl).length ++ (outs.map ROut.pl).flatMap outB = zs at *
     clear hkn hTx
     go_wp2_with fail
     refine (rsize_int 0 (by omega) (by omega) wr).mono ?_
     rintro e w3 ⟨v3, rfl, hv3, hb3⟩
     have HV3 := aside (HV.out.below hb3)
     have HU3 := aside hv3
     have HB3 : Hid (Below w1.heap.size w1 w3) := aside (HB.out.trans (hb3.mono HB.out.size))
     have hz3 := HB3.out.size
     have hs3 := sizeL_len (0 : Int).toNat
     have hl3 := HLn.out
     clear hv3 hb3 x1 x2 HV HB
     go_wp2_with (first
      | (at_builtin; refine wpList_bcat2 rfl (.tmp 131) (.tmp 134) rfl w1.heap.size rfl HV3.out rfl HU3.out (by omega) hz3 ?_; intro v4 w4 hv4 hb4 hk4)
      | fail)
     go_ret
     exact ⟨v4, rfl, by rw [HTx.out]; exact hv4.less (by rw [← EB.out]; omega), B1.out.trans ((HB3.out.trans hb4).mono B1.out.size)⟩
end Go.Proofs.YtbpabjhcjffkmaaGreatDoor
