/- The reference's text of a payment's ID; a payment as it is sent: the walks. Conditions: named in each theorem. -/
import Derived.Test.YtbpabjhcjffkmaaGreatDoorPayT
import Derived.Test.YtbpabjhcjffkmaaGreatDoorWalA
import Derived.OrdersHeld
import Derived.Deep.RegionHeld3
import Derived.Deep.MidRow
namespace Go.Proofs.YtbpabjhcjffkmaaGreatDoor
open Go.RowKit Go.ChangeShapes Go.WideShapes Go.ChangeAt

set_option maxRecDepth 100000 in
theorem ridt_any (ins : List RIn) (outs : List ROut) (A B : Option Addr) (n c m cc : Nat) (hn : n ≤ 40) (hm : m ≤ 4) (w : World) (h : NSl w w.heap.size A n ins) (hi : ∀ x ∈ ins, x.tx.length = 32 ∧ 0 ≤ x.at_ ∧ x.at_ < 1000) (ho : OSl w w.heap.size B m outs) (hO : ∀ o ∈ outs, 0 ≤ o.amt ∧ o.amt ≤ 1125899906842624 ∧ LkOk (o.lk.map ROp.pl)) :
  Calls Tryz.prog 23 #[.agg #[.slice A n c, .slice B m cc, .int .i64 0]] w (fun e w' => ∃ v, e = .returned v ∧ BRow w' w.heap.size v ([21] ++ txB (ins.map RIn.pl) (outs.map ROut.pl)) ∧ Below w.heap.size w w') := by
 have B1 : Hid (Below w.heap.size w (w.alloc (.cells #[.slice A n c, .slice B m cc, .int .i64 0] 32))) := aside ((Below.refl _ _).alloc (Nat.le_refl _) _)
 have D1 : Hid ((w.alloc (.cells #[.slice A n c, .slice B m cc, .int .i64 0] 32)).heap[w.heap.size]? = some (.cells #[.slice A n c, .slice B m cc, .int .i64 0] 32 (0, 0))) := aside (heap_alloc_new _ _)
 have hln : (txB (ins.map RIn.pl) (outs.map ROut.pl)).length ≤ 110000 := txB_len (by rw [List.length_map, FSl.len encIn_len (by decide) h]; exact hn) (by rw [List.length_map, ho.len]; exact hm)
  (fun x hx => by obtain ⟨r, hr, rfl⟩ := List.mem_map.1 hx; exact (hi r hr).1) (fun x hx => by obtain ⟨r, hr, rfl⟩ := List.mem_map.1 hx; exact (hO r hr).2.2)
 have HTx : Hid (∀ W : World, Below w.heap.size w W → Calls Tryz.prog 49 #[.agg #[.slice A n c, .slice B m cc, .int .i64 0], .bool false] W (fun e w' => ∃ v, e = .returned v ∧ BRow w' W.heap.size v (txB (ins.map RIn.pl) (outs.map ROut.pl)) ∧ Below W.heap.size W w')) := aside (fun W hW => rtx_any ins outs A B n c m cc hn hm W ((FSl.below h hW).more hW.size) hi (ho.step hW) hO)
 generalize txB (ins.map RIn.pl) (outs.map ROut.pl) = T at hln HTx ⊢
 clear h hi ho hO
 go_enter Tryz.func23, Tryz.ntmps23
 go_upto_region 1 with fail
 change Code.wp _ _ _ _ (w.alloc (.cells #[.slice A n c, .slice B m cc, .int .i64 0] 32))
 generalize (w.alloc (.cells #[.slice A n c, .slice B m cc, .int .i64 0] 32)) = w1 at B1 D1 ⊢
 obtain ⟨B0, hB0⟩ : ∃ B0, B0 = w.heap.size := ⟨_, rfl⟩
 have EB := aside hB0
 simp only [← hB0] at D1 ⊢
 clear hB0
 have l1 : B0 < w1.heap.size := (Array.getElem?_eq_some_iff.1 D1.out).1
 have B2 : Hid (Below w1.heap.size w1 (w1.alloc (.cells #[.int .u8 21] 5))) := aside ((Below.refl _ _).alloc (Nat.le_refl _) _)
 have HV2 : Hid (BRow (w1.alloc (.cells #[.int .u8 21] 5)) w1.heap.size (.slice (some ⟨w1.heap.size, 0, none⟩) 1 1) [21]) := aside (BRow.one w1 21)
 have hx := (B2.out.block B0 l1).trans D1.out
 have x0 : (w1.alloc (.cells #[.int .u8 21] 5)).cell? ⟨B0, 0, none⟩ = some (.slice A n c) := by rw [cell_of_row _ B0 0 _ _ _ hx]; rfl
 have x1 : (w1.alloc (.cells #[.int .u8 21] 5)).cell? ⟨B0, 1, none⟩ = some (.slice B m cc) := by rw [cell_of_row _ B0 1 _ _ _ hx]; rfl
 have x2 : (w1.alloc (.cells #[.int .u8 21] 5)).cell? ⟨B0, 2, none⟩ = some (.int .i64 0) := by rw [cell_of_row _ B0 2 _ _ _ hx]; rfl
 clear hx
 go_wp2_with fail
 refine (HTx.out _ (B1.out.trans (B2.out.mono B1.out.size))).mono ?_
 rintro e w3 ⟨v3, rfl, hv3, hb3⟩
 have HV3 : Hid (BRow w3 w1.heap.size (.slice (some ⟨w1.heap.size, 0, none⟩) 1 1) [21]) := aside (HV2.out.below hb3)
 have HU3 := aside hv3
 have HB3 : Hid (Below w1.heap.size w1 w3) := aside (B2.out.trans (hb3.mono B2.out.size))
 have hz3 := HB3.out.size
 have hl0 : ([21] : List Nat).length = 1 := rfl
 clear hv3 hb3 x0 x1 x2 HV2 B2
 go_wp2_with (first
  | (at_builtin; refine wpList_bcat2 rfl (.tmp 3) (.tmp 5) rfl w1.heap.size rfl HV3.out rfl HU3.out (by omega) hz3 ?_; intro v4 w4 hv4 hb4 hk4)
  | fail)
 go_ret
 exact ⟨v4, rfl, hv4.less (by rw [← EB.out]; omega), B1.out.trans ((HB3.out.trans hb4).mono B1.out.size)⟩
set_option maxHeartbeats 40000000 in
set_option maxRecDepth 100000 in
theorem sent_any (ins : List RIn) (outs : List ROut) (A B : Option Addr) (n c m cc : Nat) (hn : n ≤ 40) (hm : m ≤ 4) (w : World) (h : NSl w w.heap.size A n ins) (hi : ∀ x ∈ ins, x.tx.length = 32 ∧ 0 ≤ x.at_ ∧ x.at_ < 1000) (hk0 : ∀ x ∈ ins, x.kA = none ∧ x.kn = 0 ∧ x.kc = 0) (ho : OSl w w.heap.size B m outs) (hO : ∀ o ∈ outs, 0 ≤ o.amt ∧ o.amt ≤ 1125899906842624 ∧ LkOk (o.lk.map ROp.pl)) :
  Calls Tryz.prog 76 #[.agg #[.slice A n c, .slice B m cc, .int .i64 0]] w (fun e w' => ∃ v, e = .returned v ∧ BRow w' w.heap.size v (txB (ins.map RIn.pl) (outs.map ROut.pl)) ∧ Below w.heap.size w w') := by
 have B1 : Hid (Below w.heap.size w (w.alloc (.cells #[.slice A n c, .slice B m cc, .int .i64 0] 32))) := aside ((Below.refl _ _).alloc (Nat.le_refl _) _)
 have D1 : Hid ((w.alloc (.cells #[.slice A n c, .slice B m cc, .int .i64 0] 32)).heap[w.heap.size]? = some (.cells #[.slice A n c, .slice B m cc, .int .i64 0] 32 (0, 0))) := aside (heap_alloc_new _ _)
 have hli := FSl.len encIn_len (by decide) h
 have hlo := ho.len
 have HLi := aside hli
 have HLo := aside hlo
 have HN := aside h
 have HI := aside hi
 have HK0 := aside hk0
 have HOo := aside ho
 have HOk := aside hO
 clear h hi ho hO hli hlo hk0
 go_enter Tryz.func76, Tryz.ntmps76
 go_upto_region 1 with fail
 change Code.wp _ _ _ _ (w.alloc (.cells #[.slice A n c, .slice B m cc, .int .i64 0] 32))
 generalize (w.alloc (.cells #[.slice A n c, .slice B m cc, .int .i64 0] 32)) = w1 at B1 D1 ⊢
 obtain ⟨B0, hB0⟩ : ∃ B0, B0 = w.heap.size := ⟨_, rfl⟩
 have EB := aside hB0
 simp only [← hB0] at D1 ⊢
 clear hB0
 have l1 : B0 < w1.heap.size := (Array.getElem?_eq_some_iff.1 D1.out).1
 have HX : Hid (∀ W : World, Below w1.heap.size w1 W → W.cell? ⟨B0, 0, none⟩ = some (.slice A n c) ∧ W.cell? ⟨B0, 1, none⟩ = some (.slice B m cc) ∧ W.cell? ⟨B0, 2, none⟩ = some (.int .i64 0)) := aside fun W hW => by
  have hx := (hW.block B0 l1).trans D1.out
  refine ⟨?_, ?_, ?_⟩
  ·rw [cell_of_row W B0 0 _ _ _ hx]; rfl
  ·rw [cell_of_row W B0 1 _ _ _ hx]; rfl
  ·rw [cell_of_row W B0 2 _ _ _ hx]; rfl
 have x0 := (HX.out w1 (Below.refl _ _)).1
 go_wp2_with fail
 refine (size_own n (by omega) w1).mono ?_
 rintro e w2 ⟨v2, rfl, hv2, hb2⟩
 have HV0 : Hid (BRow w2 w1.heap.size v2 (sizeL (ins.map RIn.pl).length ++ ((ins.take 0).map RIn.pl).flatMap inB)) := aside (by rw [List.length_map, HLi.out]; simpa using hv2)
 have HB0 := aside hb2
 have hs0 := sizeL_len n
 have HLn : Hid ((sizeL (ins.map RIn.pl).length ++ ((ins.take 0).map RIn.pl).flatMap inB).length ≤ 10 + 50 * 0) := aside (by rw [List.length_map, HLi.out]; simp; omega)
 have x0 := (HX.out w2 hb2).1
 clear hv2 hb2
 go_upto_region 3 with fail
 go_loopw [3, 19] (fun v3 v19 wr => ∃ k : Nat, k ≤ n ∧ v19 = .int .i64 k ∧ Hid (BRow wr w1.heap.size v3 (sizeL (ins.map RIn.pl).length ++ ((ins.take k).map RIn.pl).flatMap inB)) ∧ Hid ((sizeL (ins.map RIn.pl).length ++ ((ins.take k).map RIn.pl).flatMap inB).length ≤ 10 + 50 * k) ∧ Hid (Below w1.heap.size w1 wr)) (fun _ v19 _ => n - (Go.RowKit.intOf v19).toNat)
 case atStart => exact ⟨0, Nat.zero_le _, rfl, HV0, HLn, HB0⟩
 case round =>
  clear HV0 HB0 HLn x0
  obtain ⟨k, hk, rfl, HV, HLn, HB⟩ := hrel
  by_cases hkn : k < n
  ·have k0 : (k : Int) < (n : Int) := by omega
   have HBw : Hid (Below w.heap.size w wr) := aside (B1.out.trans (HB.out.mono B1.out.size))
   obtain ⟨b, of, hAe, hb1, hrg⟩ := NSl.at_ (FSl.below HN.out HBw.out) hkn
   obtain ⟨ht32, hat0, hat1⟩ := HI.out _ (gd_mem noIn (l := ins) (k := k) (by have := HLi.out; omega))
   obtain ⟨hkA, hkN, hkC⟩ := HK0.out _ (gd_mem noIn (l := ins) (k := k) (by have := HLi.out; omega))
   have hnx : ((ins.take (k + 1)).map RIn.pl).flatMap inB = ((ins.take k).map RIn.pl).flatMap inB ++ inB (ins.getD k noIn).pl := by
    rw [take_getD noIn (by have := HLi.out; omega), List.map_append, List.flatMap_append]
    simp
   generalize ins.getD k noIn = r at *
   obtain ⟨xs, hxs⟩ : ∃ xs, xs = sizeL (ins.map RIn.pl).length ++ ((ins.take k).map RIn.pl).flatMap inB := ⟨_, rfl⟩
   have HXs := aside hxs.symm
   rw [← hxs] at HV HLn
   clear hxs
   have HRg := aside hrg
   have HNx := aside hnx
   have HKey : Hid ((encIn r).toArray[33]? = some (.slice none 0 0)) := aside (by rw [List.getElem?_toArray, encIn_key, hkA, hkN, hkC])
   have HS1 : Hid ((Tryz.prog.info? 63).map (·.size) = some (encIn r).length) := aside (by rw [encIn_len]; kernel_rfl)
   have HS9 : Hid ((Tryz.prog.info? 63).map (·.size) = some (encIn r).toArray.size) := aside (by simp only [List.size_toArray, encIn_len]; kernel_rfl)
   have HS8 : Hid ((encIn noIn).toArray.size = (encIn r).toArray.size) := aside (by simp only [List.size_toArray, encIn_len])
   have HO1 : Hid ((encIn r).toArray.all (·.oneCell') = true) := aside (all_oneCell_toArray (encIn_one r))
   have DX : Hid ((wr.alloc (.cells (encIn noIn).toArray 63)).heap[wr.heap.size]? = some (.cells (encIn noIn).toArray 63 (0, 0))) := aside (heap_alloc_new _ _)
   subst hAe
   clear hrg hnx hb1 HBw hkA hkN hkC
   go_upto_region 5 with (first
    | (refine wpList_load_mid rfl 63 (.tmp 21) rfl b (of + k * 34) rfl (encIn r) _ HRg.out Tryz.underlying63 rfl HS1.out ?_)
    | (refine wpList_store_row rfl 63 (.tmp 5) (.tmp 22) rfl wr.heap.size (encIn r).toArray rfl rfl 63 (encIn noIn).toArray DX.out HS9.out HS8.out HO1.out ?_)
    | fail)
   have HB2 : Hid (Below wr.heap.size wr ((wr.alloc (.cells (encIn noIn).toArray 63)).setRow wr.heap.size (encIn r).toArray)) := aside (below_setRow ((Below.refl _ _).alloc (Nat.le_refl _) _) _ (Nat.le_refl _) _)
   have DX2 : Hid (((wr.alloc (.cells (encIn noIn).toArray 63)).setRow wr.heap.size (encIn r).toArray).heap[wr.heap.size]? = some (.cells (encIn r).toArray 63 (0, 0))) := aside (setRow_heap _ _ _ _ _ _ DX.out)
   change Code.wp _ _ _ _ ((wr.alloc (.cells (encIn noIn).toArray 63)).setRow wr.heap.size (encIn r).toArray)
   generalize ((wr.alloc (.cells (encIn noIn).toArray 63)).setRow wr.heap.size (encIn r).toArray) = w3 at HB2 DX2 ⊢
   obtain ⟨b7, hb7⟩ : ∃ b7, b7 = wr.heap.size := ⟨_, rfl⟩
   rw [← hb7] at DX2 ⊢
   have HV3 : Hid (BRow w3.drew w1.heap.size u3 xs) := aside (HV.out.below (below_drawn HB2.out 1))
   have X7 : Hid (Box w3.drew u3 b7 63 (encIn r).toArray) := aside ⟨DX2.out, fun e => by have := HV.out.lt _ e; omega⟩
   have HB3 : Hid (Below w1.heap.size w1 w3.drew) := aside (below_drawn (HB.out.trans (HB2.out.mono HB.out.size)) 1)
   have HYd : Hid (YSl w3.drew w3.drew.heap.size (some ⟨b7, 0, none⟩) 32 r.tx) := aside (range_y (fun j v hj => by
    rw [Nat.zero_add]
    exact X7.out.cell (by rw [List.getElem?_toArray]; exact encIn_tx r hj)) ht32 X7.out.lt)
   have hz3 := HB3.out.size
   have hxl := HLn.out
   have HXl : Hid (xs.length ≤ 10 + 50 * k) := aside hxl
   clear hb7 DX HS1 HS9 HS8 HO1 HRg DX2 HV HB2 HB
   refine wp_region_held_drew (S := (fun W => W.heap[b7]? = some (.cells (encIn r).toArray 63 (0, 0)))) (by kernel_rfl) X7.out.1 (fun hS => ?_)
   refine tkH (i := 0) (v := ?_) rfl (by kernel_rfl) (fun _ _ _ h => h) (Or.inl ⟨by rfl, ?_⟩) hS ?_
   rotate_left
   ·(intro W hSw; (try dsimp only at hSw); go_simp; try with_reducible rfl)
   (repeat (first | simp only [q1] | simp only [q2] | simp only [q3] | simp only [Act.put] | simp only [q4] | simp only [q5] | simp only [q6]))
   refine tkH (i := 1) (v := ?_) rfl (by kernel_rfl) (fun _ _ _ h => h) (Or.inl ⟨by rfl, ?_⟩) hS ?_
   rotate_left
   ·(intro W hSw; (try dsimp only at hSw); go_simp; try with_reducible rfl)
   (repeat (first | simp only [q1] | simp only [q2] | simp only [q3] | simp only [Act.put] | simp only [q4] | simp only [q5] | simp only [q6]))
   refine tkH (i := 2) (v := ?_) rfl (by kernel_rfl) (fun _ _ _ h => h) (Or.inl ⟨by rfl, ?_⟩) hS ?_
   rotate_left
   ·(intro W hSw; (try dsimp only at hSw); go_simp; try with_reducible rfl)
   (repeat (first | simp only [q1] | simp only [q2] | simp only [q3] | simp only [Act.put] | simp only [q4] | simp only [q5] | simp only [q6]))
   refine tkH (i := 3) (v := ?_) rfl (by kernel_rfl) (fun _ _ _ h => h) (Or.inl ⟨by rfl, ?_⟩) hS ?_
   rotate_left
   ·(intro W hSw; (try dsimp only at hSw); go_simp; try with_reducible rfl)
   (repeat (first | simp only [q1] | simp only [q2] | simp only [q3] | simp only [Act.put] | simp only [q4] | simp only [q5] | simp only [q6]))
   refine tkH (i := 5) (v := ?_) rfl (by kernel_rfl) (fun _ _ _ h => h) (Or.inl ⟨by rfl, ?_⟩) hS ?_
   rotate_left
   ·(intro W hSw; (try dsimp only at hSw); go_simp; try with_reducible rfl)
   (repeat (first | simp only [q1] | simp only [q2] | simp only [q3] | simp only [Act.put] | simp only [q4] | simp only [q5] | simp only [q6]))
   refine tkH (i := 6) (v := ?_) rfl (by kernel_rfl) (fun _ _ _ h => h) (Or.inl ⟨by rfl, ?_⟩) hS ?_
   rotate_left
   ·(intro W hSw; (try dsimp only at hSw); go_simp; try with_reducible rfl)
   (repeat (first | simp only [q1] | simp only [q2] | simp only [q3] | simp only [Act.put] | simp only [q4] | simp only [q5] | simp only [q6]))
   refine tkH (i := 7) (v := ?_) rfl (by kernel_rfl) (fun _ _ _ h => h) (Or.inl ⟨by rfl, ?_⟩) hS ?_
   rotate_left
   ·(intro W hSw; (try dsimp only at hSw); have hx9 : W.cell? ⟨b7, 32, none⟩ = some (.int .i64 r.at_) := (by rw [cell_of_row W b7 32 _ _ _ hSw, List.getElem?_toArray]; exact encIn_at r); go_simp; try with_reducible rfl)
   (repeat (first | simp only [q1] | simp only [q2] | simp only [q3] | simp only [Act.put] | simp only [q4] | simp only [q5] | simp only [q6]))
   refine oneL (i := 4) (by kernel_rfl) rfl ?_
   (repeat (first | simp only [q1] | simp only [q2] | simp only [q3]))
   go_wp2_with (first
    | (at_builtin; refine wpList_bcat rfl (.tmp 23) (.tmp 26) rfl w1.heap.size rfl HV3.out rfl rfl HYd.out (by omega) hz3 ?_; intro vp wp hvp hbp hkp)
    | fail)
   have Xp := aside (X7.out.grow hkp)
   have HVp := aside hvp
   have HBp : Hid (Below w1.heap.size w1 wp) := aside (HB3.out.trans hbp)
   have HSp := aside Xp.out.1
   clear hvp hbp hkp
   change _ ∧ _
   refine ⟨HSp.out, ?_⟩
   (try dsimp only)
   (repeat (first | simp only [q1] | simp only [q2] | simp only [q3] | simp only [Act.put] | simp only [q4] | simp only [q5] | simp only [q6]))
   refine oneL (i := 8) (by kernel_rfl) rfl ?_
   (repeat (first | simp only [q1] | simp only [q2] | simp only [q3]))
   go_wp2_with (first
    | (go_at_call 115; refine (size_int r.at_ hat0 (by omega) wp).mono ?_; rintro e w6 ⟨v6, rfl, hv6, hb6⟩; have HU6 := aside hv6; have HB6 := aside hb6; clear hv6 hb6)
    | fail)
   have X6 := aside (Xp.out.call HB6.out)
   have HV6 := aside (HVp.out.below HB6.out)
   have HB7 : Hid (Below w1.heap.size w1 w6) := aside (HBp.out.trans (HB6.out.mono HBp.out.size))
   have hz6 := HB7.out.size
   have hs6 := sizeL_len r.at_.toNat
   have hl6 : (xs ++ r.tx).length ≤ 10 + 50 * k + 32 := by rw [List.length_append, ht32]; omega
   have HSq := aside X6.out.1
   clear HVp HBp HB6
   change _ ∧ _
   refine ⟨HSq.out, ?_⟩
   (try dsimp only)
   (repeat (first | simp only [q1] | simp only [q2] | simp only [q3] | simp only [Act.put] | simp only [q4] | simp only [q5] | simp only [q6]))
   refine oneL (i := 9) (by kernel_rfl) rfl ?_
   (repeat (first | simp only [q1] | simp only [q2] | simp only [q3]))
   go_wp2_with (first
    | (at_builtin; refine wpList_bcat2 rfl (.tmp 27) (.tmp 31) rfl w1.heap.size rfl HV6.out rfl HU6.out (by omega) hz6 ?_; intro v7 w7 hv7 hb7 hk7)
    | fail)
   have X7b := aside (X6.out.grow hk7)
   have HV7 := aside hv7
   have HB8 : Hid (Below w1.heap.size w1 w7) := aside (HB7.out.trans hb7)
   have HSr := aside X7b.out.1
   clear hv7 hb7 hk7
   change _ ∧ _
   refine ⟨HSr.out, ?_⟩
   (try dsimp only)
   (repeat (first | simp only [q1] | simp only [q2] | simp only [q3] | simp only [Act.put] | simp only [q4] | simp only [q5] | simp only [q6]))
   refine tkH (i := 10) (v := ?_) rfl (by kernel_rfl) (fun _ _ _ h => h) (Or.inl ⟨by rfl, ?_⟩) HSr.out ?_
   rotate_left
   ·(intro W hSw; (try dsimp only at hSw); go_simp; try with_reducible rfl)
   (repeat (first | simp only [q1] | simp only [q2] | simp only [q3] | simp only [Act.put] | simp only [q4] | simp only [q5] | simp only [q6]))
   refine wpAnyH_done (by kernel_rfl) ?_ _
   clear X7 Xp X6 HV6 HU6 HV3 HYd HB3 HB7 HSp HSq HSr hz3 hz6
   have y33 : w7.cell? ⟨b7, 33, none⟩ = some (.slice none 0 0) := X7b.out.cell HKey.out
   have hl7 : (xs ++ r.tx ++ sizeL r.at_.toNat).length ≤ 10 + 50 * k + 41 := by rw [List.length_append]; omega
   go_wp2_with fail
   refine (size_own 0 (by omega) w7).mono ?_
   rintro e w8 ⟨v8, rfl, hv8, hb8⟩
   have HV8 := aside (HV7.out.below hb8)
   have HU8 := aside hv8
   have X8 := aside (X7b.out.call hb8)
   have HB9 : Hid (Below w1.heap.size w1 w8) := aside (HB8.out.trans (hb8.mono HB8.out.size))
   have hz9 := HB9.out.size
   have hl0 : (sizeL 0).length = 1 := by rw [sizeL_zero]; rfl
   clear hv8 hb8 HV7 HB8 y33
   go_upto_region 7 with (first
    | (at_builtin; refine wpList_bcat2 rfl (.tmp 33) (.tmp 37) rfl w1.heap.size rfl HV8.out rfl HU8.out (by omega) hz9 ?_; intro va wa hva hba hka)
    | fail)
   have Xa := aside (X8.out.grow hka)
   have HVa := aside hva
   have HBa : Hid (Below w1.heap.size w1 wa) := aside (HB9.out.trans hba)
   have y33 : wa.cell? ⟨b7, 33, none⟩ = some (.slice none 0 0) := Xa.out.cell HKey.out
   clear hva hba hka HV8 HU8 HB9 hz9 X8
   go_upto_region 8 with fail
   go_loopw [3, 42] (fun v3 v42 wr => v3 = va ∧ v42 = .int .i64 0 ∧ wr = wa) (fun _ _ _ => 0)
   case atStart => exact ⟨rfl, rfl, rfl⟩
   case round =>
    obtain ⟨hq1, hq2, hq3⟩ := hrel
    subst hq1 hq2 hq3
    have HV11 : Hid (BRow wr w1.heap.size u3 (sizeL (ins.map RIn.pl).length ++ ((ins.take (k + 1)).map RIn.pl).flatMap inB)) := aside (by
     rw [HNx.out, ← List.append_assoc, HXs.out]
     have e9 : xs ++ inB r.pl = xs ++ r.tx ++ sizeL r.at_.toNat ++ sizeL 0 := by rw [sizeL_zero]; unfold inB RIn.pl; simp
     rw [e9]
     exact HVa.out)
    have HL11 : Hid ((sizeL (ins.map RIn.pl).length ++ ((ins.take (k + 1)).map RIn.pl).flatMap inB).length ≤ 10 + 50 * (k + 1)) := aside (by
     rw [HNx.out, ← List.append_assoc, HXs.out, List.length_append]
     have := inB_len (x := r.pl) ht32
     omega)
    clear HVa Xa y33
    go_wp2
    exact ⟨⟨k + 1, by omega, by go_num, HV11, HL11, HBa⟩, by simp [Go.RowKit.intOf]; omega⟩
  ·obtain rfl : n = k := by omega
   have i0 : ((n : Int) < (n : Int)) = False := by simp
   rw [List.take_of_length_le (Nat.le_of_eq HLi.out)] at HV HLn
   obtain ⟨ys, hys⟩ : ∃ ys, ys = sizeL (ins.map RIn.pl).length ++ (ins.map RIn.pl).flatMap inB := ⟨_, rfl⟩
   have HYs := aside hys.symm
   rw [← hys] at HV HLn
   clear hys hkn
   have x1 := (HX.out wr HB.out).2.1
   go_wp2_with fail
   refine (size_own m (by omega) wr).mono ?_
   rintro e w3 ⟨v3, rfl, hv3, hb3⟩
   have HV3 := aside (HV.out.below hb3)
   have HU3 := aside hv3
   have HB3 : Hid (Below w1.heap.size w1 w3) := aside (HB.out.trans (hb3.mono HB.out.size))
   have hz3 := HB3.out.size
   have hs3 := sizeL_len m
   have hl3 := HLn.out
   clear hv3 hb3 x1 HV HB
   go_upto_region 14 with (first
    | (at_builtin; refine wpList_bcat2 rfl (.tmp 52) (.tmp 56) rfl w1.heap.size rfl HV3.out rfl HU3.out (by omega) hz3 ?_; intro v4 w4 hv4 hb4 hk4)
    | fail)
   have HV0 : Hid (BRow w4 w1.heap.size v4 (ys ++ sizeL (outs.map ROut.pl).length ++ ((outs.take 0).map ROut.pl).flatMap outB)) := aside (by rw [List.length_map, HLo.out]; simpa using hv4)
   have HL0 : Hid ((ys ++ sizeL (outs.map ROut.pl).length ++ ((outs.take 0).map ROut.pl).flatMap outB).length ≤ 3000 + 25000 * 0) := aside (by
    rw [List.length_map, HLo.out]
    simp
    omega)
   have HB4 : Hid (Below w1.heap.size w1 w4) := aside (HB3.out.trans hb4)
   have x1 := (HX.out w4 HB4.out).2.1
   clear hv4 hb4 hk4 HV3 HU3 HB3 hz3
   go_upto_region 15 with fail
   go_loopw [3, 61] (fun v3 v61 wr => ∃ k : Nat, k ≤ m ∧ v61 = .int .i64 k ∧ Hid (BRow wr w1.heap.size v3 (ys ++ sizeL (outs.map ROut.pl).length ++ ((outs.take k).map ROut.pl).flatMap outB)) ∧ Hid ((ys ++ sizeL (outs.map ROut.pl).length ++ ((outs.take k).map ROut.pl).flatMap outB).length ≤ 3000 + 25000 * k) ∧ Hid (Below w1.heap.size w1 wr)) (fun _ v61 _ => m - (Go.RowKit.intOf v61).toNat)
   case atStart => exact ⟨0, Nat.zero_le _, rfl, HV0, HL0, HB4⟩
   case round =>
    clear HV0 HB4 HL0 x1
    obtain ⟨k, hk, rfl, HV, HLn, HB⟩ := hrel
    by_cases hkn : k < m
    ·have k0 : (k : Int) < (m : Int) := by omega
     have HBw : Hid (Below w.heap.size w wr) := aside (B1.out.trans (HB.out.mono B1.out.size))
     obtain ⟨b, of, hAe, hb1, p0, p1⟩ := (HOo.out.below HBw.out).at_ hkn
     obtain ⟨ha0, ha1, hlk⟩ := HOk.out _ (gd_mem noOut (l := outs) (k := k) (by have := HLo.out; omega))
     have hrl := HOo.out.lock _ (gd_mem noOut (l := outs) (k := k) (by have := HLo.out; omega))
     have hnx : ((outs.take (k + 1)).map ROut.pl).flatMap outB = ((outs.take k).map ROut.pl).flatMap outB ++ outB (outs.getD k noOut).pl := by
      rw [take_getD noOut (by have := HLo.out; omega), List.map_append, List.flatMap_append]
      simp
     generalize outs.getD k noOut = r at *
     obtain ⟨xs, hxs⟩ : ∃ xs, xs = ys ++ sizeL (outs.map ROut.pl).length ++ ((outs.take k).map ROut.pl).flatMap outB := ⟨_, rfl⟩
     have HXs := aside hxs.symm
     rw [← hxs] at HV HLn
     have HNx := aside hnx
     have HRl := aside hrl
     have HLk := aside hlk
     have hll : r.ln ≤ 60 := by
      have h1 := hrl.len
      have h2 := hlk.1
      rw [List.length_map] at h2
      omega
     have HLl : Hid (r.lk.length = r.ln) := aside hrl.len
     have hbz : b < wr.heap.size := by have := HBw.out.size; omega
     have B11 : Hid (Below wr.heap.size wr (wr.alloc (.cells #[.int .i64 r.amt, .slice r.lA r.ln r.lc] 27))) := aside ((Below.refl _ _).alloc (Nat.le_refl _) _)
     have X0 : Hid (Box (wr.alloc (.cells #[.int .i64 r.amt, .slice r.lA r.ln r.lc] 27)) u3 wr.heap.size 27 #[.int .i64 r.amt, .slice r.lA r.ln r.lc]) := aside ⟨heap_alloc_new _ _, fun e => by have := HV.out.lt _ e; omega⟩
     subst hAe
     clear hxs hnx hrl hlk hb1 HBw
     go_upto_region 17 with fail
     change Code.wp _ _ _ _ (wr.alloc (.cells #[.int .i64 r.amt, .slice r.lA r.ln r.lc] 27))
     generalize (wr.alloc (.cells #[.int .i64 r.amt, .slice r.lA r.ln r.lc] 27)) = w3 at B11 X0 ⊢
     obtain ⟨bo, hbo⟩ : ∃ bo, bo = wr.heap.size := ⟨_, rfl⟩
     rw [← hbo] at X0 ⊢
     have HV3 : Hid (BRow w3.drew w1.heap.size u3 xs) := aside (HV.out.below (below_drawn B11.out 1))
     have HB3 : Hid (Below w1.heap.size w1 w3.drew) := aside (below_drawn (HB.out.trans (B11.out.mono HB.out.size)) 1)
     have X3 : Hid (Box w3.drew u3 bo 27 #[.int .i64 r.amt, .slice r.lA r.ln r.lc]) := aside X0.out
     have hl4 := HLn.out
     clear hbo HV HB p0 p1 B11 hbz
     refine wp_region_held_drew (S := (fun W => W.heap[bo]? = some (.cells #[.int .i64 r.amt, .slice r.lA r.ln r.lc] 27 (0, 0)))) (by kernel_rfl) X3.out.1 (fun hS => ?_)
     refine tkH (i := 0) (v := ?_) rfl (by kernel_rfl) (fun _ _ _ h => h) (Or.inl ⟨by rfl, ?_⟩) hS ?_
     rotate_left
     ·(intro W hSw; (try dsimp only at hSw); go_simp; try with_reducible rfl)
     (repeat (first | simp only [q1] | simp only [q2] | simp only [q3] | simp only [Act.put] | simp only [q4] | simp only [q5] | simp only [q6]))
     refine tkH (i := 1) (v := ?_) rfl (by kernel_rfl) (fun _ _ _ h => h) (Or.inl ⟨by rfl, ?_⟩) hS ?_
     rotate_left
     ·(intro W hSw; (try dsimp only at hSw); go_simp; try with_reducible rfl)
     (repeat (first | simp only [q1] | simp only [q2] | simp only [q3] | simp only [Act.put] | simp only [q4] | simp only [q5] | simp only [q6]))
     refine tkH (i := 2) (v := ?_) rfl (by kernel_rfl) (fun _ _ _ h => h) (Or.inl ⟨by rfl, ?_⟩) hS ?_
     rotate_left
     ·(intro W hSw; (try dsimp only at hSw); have hx9 : W.cell? ⟨bo, 0, none⟩ = some (.int .i64 r.amt) := (by rw [cell_of_row W bo 0 _ _ _ hSw]; rfl); go_simp; try with_reducible rfl)
     (repeat (first | simp only [q1] | simp only [q2] | simp only [q3] | simp only [Act.put] | simp only [q4] | simp only [q5] | simp only [q6]))
     refine tkH (i := 5) (v := ?_) rfl (by kernel_rfl) (fun _ _ _ h => h) (Or.inl ⟨by rfl, ?_⟩) hS ?_
     rotate_left
     ·(intro W hSw; (try dsimp only at hSw); go_simp; try with_reducible rfl)
     (repeat (first | simp only [q1] | simp only [q2] | simp only [q3] | simp only [Act.put] | simp only [q4] | simp only [q5] | simp only [q6]))
     refine tkH (i := 6) (v := ?_) rfl (by kernel_rfl) (fun _ _ _ h => h) (Or.inl ⟨by rfl, ?_⟩) hS ?_
     rotate_left
     ·(intro W hSw; (try dsimp only at hSw); have hx9 : W.cell? ⟨bo, 1, none⟩ = some (.slice r.lA r.ln r.lc) := (by rw [cell_of_row W bo 1 _ _ _ hSw]; rfl); go_simp; try with_reducible rfl)
     (repeat (first | simp only [q1] | simp only [q2] | simp only [q3] | simp only [Act.put] | simp only [q4] | simp only [q5] | simp only [q6]))
     refine tkH (i := 7) (v := ?_) rfl (by kernel_rfl) (fun _ _ _ h => h) (Or.inl ⟨by rfl, ?_⟩) hS ?_
     rotate_left
     ·(intro W hSw; (try dsimp only at hSw); go_simp; try with_reducible rfl)
     (repeat (first | simp only [q1] | simp only [q2] | simp only [q3] | simp only [Act.put] | simp only [q4] | simp only [q5] | simp only [q6]))
     refine oneL (i := 3) (by kernel_rfl) rfl ?_
     (repeat (first | simp only [q1] | simp only [q2] | simp only [q3]))
     go_wp2_with (first
      | (go_at_call 115; refine (size_int r.amt ha0 (by omega) w3.drew).mono ?_; rintro e w4 ⟨v4, rfl, hv4, hb4⟩; have HU4 := aside hv4; have HB4 := aside hb4; clear hv4 hb4)
      | fail)
     have X4 := aside (X3.out.call HB4.out)
     have HV4 := aside (HV3.out.below HB4.out)
     have HB5 : Hid (Below w1.heap.size w1 w4) := aside (HB3.out.trans (HB4.out.mono HB3.out.size))
     have hz4 := HB5.out.size
     have hs4 := sizeL_len r.amt.toNat
     have HSa := aside X4.out.1
     clear HV3 HB3 HB4 X0
     change _ ∧ _
     refine ⟨HSa.out, ?_⟩
     (try dsimp only)
     (repeat (first | simp only [q1] | simp only [q2] | simp only [q3] | simp only [Act.put] | simp only [q4] | simp only [q5] | simp only [q6]))
     refine oneL (i := 4) (by kernel_rfl) rfl ?_
     (repeat (first | simp only [q1] | simp only [q2] | simp only [q3]))
     go_wp2_with (first
      | (at_builtin; refine wpList_bcat2 rfl (.tmp 65) (.tmp 68) rfl w1.heap.size rfl HV4.out rfl HU4.out (by omega) hz4 ?_; intro vb wb hvb hbb hkb)
      | fail)
     have X5 := aside (X4.out.grow hkb)
     have HV5 := aside hvb
     have HB6 : Hid (Below w1.heap.size w1 wb) := aside (HB5.out.trans hbb)
     have HSb := aside X5.out.1
     clear hvb hbb hkb HV4 HU4 HB5 hz4
     change _ ∧ _
     refine ⟨HSb.out, ?_⟩
     (try dsimp only)
     (repeat (first | simp only [q1] | simp only [q2] | simp only [q3] | simp only [Act.put] | simp only [q4] | simp only [q5] | simp only [q6]))
     refine oneL (i := 8) (by kernel_rfl) rfl ?_
     (repeat (first | simp only [q1] | simp only [q2] | simp only [q3]))
     go_wp2_with (first
      | (go_at_call 115; refine (size_own r.ln (by omega) wb).mono ?_; rintro e w6 ⟨v6, rfl, hv6, hb6⟩; have HU6 := aside hv6; have HB7 := aside hb6; clear hv6 hb6)
      | fail)
     have X6 := aside (X5.out.call HB7.out)
     have HV6 := aside (HV5.out.below HB7.out)
     have HB8 : Hid (Below w1.heap.size w1 w6) := aside (HB6.out.trans (HB7.out.mono HB6.out.size))
     have hz6 := HB8.out.size
     have hs6 := sizeL_len r.ln
     have hl6 : (xs ++ sizeL r.amt.toNat).length ≤ 3000 + 25000 * k + 9 := by rw [List.length_append]; omega
     have HSc := aside X6.out.1
     clear HV5 HB6 HB7
     change _ ∧ _
     refine ⟨HSc.out, ?_⟩
     (try dsimp only)
     (repeat (first | simp only [q1] | simp only [q2] | simp only [q3] | simp only [Act.put] | simp only [q4] | simp only [q5] | simp only [q6]))
     refine oneL (i := 9) (by kernel_rfl) rfl ?_
     (repeat (first | simp only [q1] | simp only [q2] | simp only [q3]))
     go_wp2_with (first
      | (at_builtin; refine wpList_bcat2 rfl (.tmp 69) (.tmp 73) rfl w1.heap.size rfl HV6.out rfl HU6.out (by omega) hz6 ?_; intro v7 w7 hv7 hb7 hk7)
      | fail)
     have X7 := aside (X6.out.grow hk7)
     have HB9 : Hid (Below w1.heap.size w1 w7) := aside (HB8.out.trans hb7)
     have HSd := aside X7.out.1
     have HV0 : Hid (BRow w7 w1.heap.size v7 (xs ++ sizeL r.amt.toNat ++ sizeL r.ln ++ ((r.lk.take 0).map ROp.pl).flatMap opB)) := aside (by simpa using hv7)
     have HL0 : Hid ((xs ++ sizeL r.amt.toNat ++ sizeL r.ln ++ ((r.lk.take 0).map ROp.pl).flatMap opB).length ≤ 3000 + 25000 * k + 18 + 400 * 0) := aside (by
      simp only [List.take_zero, List.map_nil, List.flatMap_nil, List.append_nil, List.length_append] at hl6 ⊢
      omega)
     clear hv7 hb7 hk7
     change _ ∧ _
     refine ⟨HSd.out, ?_⟩
     (try dsimp only)
     (repeat (first | simp only [q1] | simp only [q2] | simp only [q3] | simp only [Act.put] | simp only [q4] | simp only [q5] | simp only [q6]))
     refine tkH (i := 10) (v := ?_) rfl (by kernel_rfl) (fun _ _ _ h => h) (Or.inl ⟨by rfl, ?_⟩) HSd.out ?_
     rotate_left
     ·(intro W hSw; (try dsimp only at hSw); go_simp; try with_reducible rfl)
     (repeat (first | simp only [q1] | simp only [q2] | simp only [q3] | simp only [Act.put] | simp only [q4] | simp only [q5] | simp only [q6]))
     refine wpAnyH_done (by kernel_rfl) ?_ _
     clear X3 X4 X5 X6 HV6 HU6 HB8 HSa HSb HSc HSd hz6
     have y1 : w7.cell? ⟨bo, 1, none⟩ = some (.slice r.lA r.ln r.lc) := X7.out.cell rfl
     go_upto_region 19 with fail
     go_loopw [3, 78] (fun v3 v78 wr => ∃ j : Nat, j ≤ r.ln ∧ v78 = .int .i64 j ∧ Hid (BRow wr w1.heap.size v3 (xs ++ sizeL r.amt.toNat ++ sizeL r.ln ++ ((r.lk.take j).map ROp.pl).flatMap opB)) ∧ Hid ((xs ++ sizeL r.amt.toNat ++ sizeL r.ln ++ ((r.lk.take j).map ROp.pl).flatMap opB).length ≤ 3000 + 25000 * k + 18 + 400 * j) ∧ Hid (Below w1.heap.size w1 wr)) (fun _ v78 _ => r.ln - (Go.RowKit.intOf v78).toNat)
     case atStart => exact ⟨0, Nat.zero_le _, rfl, HV0, HL0, HB9⟩
     case round =>
      clear HV0 HL0 X7 HB9 y1
      obtain ⟨j, hj, rfl, HV, HLj, HB⟩ := hrel
      by_cases hjn : j < r.ln
      ·have j0 : (j : Int) < (r.ln : Int) := by omega
       have HBw : Hid (Below w.heap.size w wr) := aside (B1.out.trans (HB.out.mono B1.out.size))
       obtain ⟨bl, ol, hAe, hbl, q0, q1, q2⟩ := (HRl.out.below HBw.out).at_ hjn
       have hmem := HRl.out.mem hjn
       have hpm := HLk.out.2 _ (List.mem_map_of_mem (f := ROp.pl) hmem)
       have hda := HRl.out.data _ hmem
       have hnx := pl_next (rs := r.lk) (k := j) (by have := HLl.out; omega)
       have hnx2 : ((r.lk.take (j + 1)).map ROp.pl).flatMap opB = ((r.lk.take j).map ROp.pl).flatMap opB ++ opB (r.lk.getD j noR).pl := by
        rw [hnx, List.flatMap_append]
        simp
       generalize r.lk.getD j noR = o at *
       obtain ⟨zs, hzs⟩ : ∃ zs, zs = xs ++ sizeL r.amt.toNat ++ sizeL r.ln ++ ((r.lk.take j).map ROp.pl).flatMap opB := ⟨_, rfl⟩
       have HZs := aside hzs.symm
       rw [← hzs] at HV HLj
       have HN2 := aside hnx2
       obtain ⟨o1, o2, o3, o4, o5⟩ : 1 ≤ o.op ∧ o.op ≤ 14 ∧ 0 ≤ o.n ∧ o.n ≤ 1073741824 ∧ o.data.length ≤ 300 := hpm
       have HOB : Hid (opB o.pl = sizeL o.op.toNat ++ sizeL o.n.toNat ++ (sizeL o.data.length ++ o.data)) := aside rfl
       have hdl := YSl.len1 hda
       have HDa := aside hda
       have hbz : bl < wr.heap.size := by have := HBw.out.size; omega
       have hlz := HLj.out
       have B11 : Hid (Below wr.heap.size wr (wr.alloc (.cells #[.int .i64 o.op, .int .i64 o.n, .slice o.dA o.dn o.dc] 85))) := aside ((Below.refl _ _).alloc (Nat.le_refl _) _)
       have X0 : Hid (Box (wr.alloc (.cells #[.int .i64 o.op, .int .i64 o.n, .slice o.dA o.dn o.dc] 85)) u3 wr.heap.size 85 #[.int .i64 o.op, .int .i64 o.n, .slice o.dA o.dn o.dc]) := aside ⟨heap_alloc_new _ _, fun e => by have := HV.out.lt _ e; omega⟩
       have HAe := aside hAe
       rw [hAe]
       clear hAe
       clear hzs hnx hnx2 hda hbl hmem HBw
       go_upto_region 21 with fail
       change Code.wp _ _ _ _ (wr.alloc (.cells #[.int .i64 o.op, .int .i64 o.n, .slice o.dA o.dn o.dc] 85))
       generalize (wr.alloc (.cells #[.int .i64 o.op, .int .i64 o.n, .slice o.dA o.dn o.dc] 85)) = w3 at B11 X0 ⊢
       obtain ⟨bp, hbp⟩ : ∃ bp, bp = wr.heap.size := ⟨_, rfl⟩
       rw [← hbp] at X0 ⊢
       have HV3 : Hid (BRow w3.drew w1.heap.size u3 zs) := aside (HV.out.below (below_drawn B11.out 1))
       have HB3 : Hid (Below w1.heap.size w1 w3.drew) := aside (below_drawn (HB.out.trans (B11.out.mono HB.out.size)) 1)
       have X3 : Hid (Box w3.drew u3 bp 85 #[.int .i64 o.op, .int .i64 o.n, .slice o.dA o.dn o.dc]) := aside X0.out
       have HDd : Hid (∀ W : World, Below w1.heap.size w1 W → YSl W W.heap.size o.dA o.dn o.data) := aside (fun W hW => by
        have hW2 := B1.out.trans (hW.mono B1.out.size)
        exact (Sl.below HDa.out hW2).more hW2.size)
       clear hbp HV HB q0 q1 q2 B11 hbz X0
       refine wp_region_held_drew (S := (fun W => W.heap[bp]? = some (.cells #[.int .i64 o.op, .int .i64 o.n, .slice o.dA o.dn o.dc] 85 (0, 0)))) (by kernel_rfl) X3.out.1 (fun hS => ?_)
       refine tkH (i := 0) (v := ?_) rfl (by kernel_rfl) (fun _ _ _ h => h) (Or.inl ⟨by rfl, ?_⟩) hS ?_
       rotate_left
       ·(intro W hSw; (try dsimp only at hSw); go_simp; try with_reducible rfl)
       (repeat (first | simp only [q1] | simp only [q2] | simp only [q3] | simp only [Act.put] | simp only [q4] | simp only [q5] | simp only [q6]))
       refine tkH (i := 1) (v := ?_) rfl (by kernel_rfl) (fun _ _ _ h => h) (Or.inl ⟨by rfl, ?_⟩) hS ?_
       rotate_left
       ·(intro W hSw; (try dsimp only at hSw); go_simp; try with_reducible rfl)
       (repeat (first | simp only [q1] | simp only [q2] | simp only [q3] | simp only [Act.put] | simp only [q4] | simp only [q5] | simp only [q6]))
       refine tkH (i := 2) (v := ?_) rfl (by kernel_rfl) (fun _ _ _ h => h) (Or.inl ⟨by rfl, ?_⟩) hS ?_
       rotate_left
       ·(intro W hSw; (try dsimp only at hSw); have hx9 : W.cell? ⟨bp, 0, none⟩ = some (.int .i64 o.op) := (by rw [cell_of_row W bp 0 _ _ _ hSw]; rfl); go_simp; try with_reducible rfl)
       (repeat (first | simp only [q1] | simp only [q2] | simp only [q3] | simp only [Act.put] | simp only [q4] | simp only [q5] | simp only [q6]))
       refine tkH (i := 5) (v := ?_) rfl (by kernel_rfl) (fun _ _ _ h => h) (Or.inl ⟨by rfl, ?_⟩) hS ?_
       rotate_left
       ·(intro W hSw; (try dsimp only at hSw); go_simp; try with_reducible rfl)
       (repeat (first | simp only [q1] | simp only [q2] | simp only [q3] | simp only [Act.put] | simp only [q4] | simp only [q5] | simp only [q6]))
       refine tkH (i := 6) (v := ?_) rfl (by kernel_rfl) (fun _ _ _ h => h) (Or.inl ⟨by rfl, ?_⟩) hS ?_
       rotate_left
       ·(intro W hSw; (try dsimp only at hSw); have hx9 : W.cell? ⟨bp, 1, none⟩ = some (.int .i64 o.n) := (by rw [cell_of_row W bp 1 _ _ _ hSw]; rfl); go_simp; try with_reducible rfl)
       (repeat (first | simp only [q1] | simp only [q2] | simp only [q3] | simp only [Act.put] | simp only [q4] | simp only [q5] | simp only [q6]))
       refine tkH (i := 9) (v := ?_) rfl (by kernel_rfl) (fun _ _ _ h => h) (Or.inl ⟨by rfl, ?_⟩) hS ?_
       rotate_left
       ·(intro W hSw; (try dsimp only at hSw); go_simp; try with_reducible rfl)
       (repeat (first | simp only [q1] | simp only [q2] | simp only [q3] | simp only [Act.put] | simp only [q4] | simp only [q5] | simp only [q6]))
       refine tkH (i := 10) (v := ?_) rfl (by kernel_rfl) (fun _ _ _ h => h) (Or.inl ⟨by rfl, ?_⟩) hS ?_
       rotate_left
       ·(intro W hSw; (try dsimp only at hSw); have hx9 : W.cell? ⟨bp, 2, none⟩ = some (.slice o.dA o.dn o.dc) := (by rw [cell_of_row W bp 2 _ _ _ hSw]; rfl); go_simp; try with_reducible rfl)
       (repeat (first | simp only [q1] | simp only [q2] | simp only [q3] | simp only [Act.put] | simp only [q4] | simp only [q5] | simp only [q6]))
       refine oneL (i := 3) (by kernel_rfl) rfl ?_
       (repeat (first | simp only [q1] | simp only [q2] | simp only [q3]))
       go_wp2_with (first
        | (go_at_call 115; refine (size_int o.op (by omega) (by omega) w3.drew).mono ?_; rintro e w4 ⟨v4, rfl, hv4, hb4⟩; have HU4 := aside hv4; have HB4 := aside hb4; clear hv4 hb4)
        | fail)
       have X4 := aside (X3.out.call HB4.out)
       have HV4 := aside (HV3.out.below HB4.out)
       have HB5 : Hid (Below w1.heap.size w1 w4) := aside (HB3.out.trans (HB4.out.mono HB3.out.size))
       have hz4 := HB5.out.size
       have hs4 := sizeL_len o.op.toNat
       have HSa := aside X4.out.1
       clear HV3 HB3 HB4
       change _ ∧ _
       refine ⟨HSa.out, ?_⟩
       (try dsimp only)
       (repeat (first | simp only [q1] | simp only [q2] | simp only [q3] | simp only [Act.put] | simp only [q4] | simp only [q5] | simp only [q6]))
       refine oneL (i := 4) (by kernel_rfl) rfl ?_
       (repeat (first | simp only [q1] | simp only [q2] | simp only [q3]))
       go_wp2_with (first
        | (at_builtin; refine wpList_bcat2 rfl (.tmp 82) (.tmp 85) rfl w1.heap.size rfl HV4.out rfl HU4.out (by omega) hz4 ?_; intro vb wb hvb hbb hkb)
        | fail)
       have X5 := aside (X4.out.grow hkb)
       have HV5 := aside hvb
       have HB6 : Hid (Below w1.heap.size w1 wb) := aside (HB5.out.trans hbb)
       have HSb := aside X5.out.1
       clear hvb hbb hkb HV4 HU4 HB5 hz4
       change _ ∧ _
       refine ⟨HSb.out, ?_⟩
       (try dsimp only)
       (repeat (first | simp only [q1] | simp only [q2] | simp only [q3] | simp only [Act.put] | simp only [q4] | simp only [q5] | simp only [q6]))
       refine oneL (i := 7) (by kernel_rfl) rfl ?_
       (repeat (first | simp only [q1] | simp only [q2] | simp only [q3]))
       go_wp2_with (first
        | (go_at_call 115; refine (size_int o.n (by omega) (by omega) wb).mono ?_; rintro e w6 ⟨v6, rfl, hv6, hb6⟩; have HU6 := aside hv6; have HB7 := aside hb6; clear hv6 hb6)
        | fail)
       have X6 := aside (X5.out.call HB7.out)
       have HV6 := aside (HV5.out.below HB7.out)
       have HB8 : Hid (Below w1.heap.size w1 w6) := aside (HB6.out.trans (HB7.out.mono HB6.out.size))
       have hz6 := HB8.out.size
       have hs6 := sizeL_len o.n.toNat
       have hl6 : (zs ++ sizeL o.op.toNat).length ≤ 3000 + 25000 * k + 18 + 400 * j + 9 := by rw [List.length_append]; omega
       have HSc := aside X6.out.1
       clear HV5 HB6 HB7
       change _ ∧ _
       refine ⟨HSc.out, ?_⟩
       (try dsimp only)
       (repeat (first | simp only [q1] | simp only [q2] | simp only [q3] | simp only [Act.put] | simp only [q4] | simp only [q5] | simp only [q6]))
       refine oneL (i := 8) (by kernel_rfl) rfl ?_
       (repeat (first | simp only [q1] | simp only [q2] | simp only [q3]))
       go_wp2_with (first
        | (at_builtin; refine wpList_bcat2 rfl (.tmp 86) (.tmp 89) rfl w1.heap.size rfl HV6.out rfl HU6.out (by omega) hz6 ?_; intro vd wd hvd hbd hkd)
        | fail)
       have X7 := aside (X6.out.grow hkd)
       have HV7 := aside hvd
       have HB9 : Hid (Below w1.heap.size w1 wd) := aside (HB8.out.trans hbd)
       have HSd := aside X7.out.1
       have HPk := aside (pack_any o.data o.dA o.dn o.dc wd (HDd.out wd HB9.out) (by omega))
       clear hvd hbd hkd HV6 HU6 HB8 hz6
       change _ ∧ _
       refine ⟨HSd.out, ?_⟩
       (try dsimp only)
       (repeat (first | simp only [q1] | simp only [q2] | simp only [q3] | simp only [Act.put] | simp only [q4] | simp only [q5] | simp only [q6]))
       refine oneL (i := 11) (by kernel_rfl) rfl ?_
       (repeat (first | simp only [q1] | simp only [q2] | simp only [q3]))
       go_wp2_with (first
        | (go_at_call 116; refine HPk.out.mono ?_; rintro e w8 ⟨v8, rfl, hv8, hb8⟩; have HU8 := aside hv8; have HBa := aside hb8; clear hv8 hb8)
        | fail)
       have X8 := aside (X7.out.call HBa.out)
       have HV8 := aside (HV7.out.below HBa.out)
       have HBb : Hid (Below w1.heap.size w1 w8) := aside (HB9.out.trans (HBa.out.mono HB9.out.size))
       have hz8 := HBb.out.size
       have hs8 := sizeL_len o.dn
       have hl8 : (zs ++ sizeL o.op.toNat ++ sizeL o.n.toNat).length ≤ 3000 + 25000 * k + 18 + 400 * j + 18 := by rw [List.length_append]; omega
       have hl9 : (sizeL o.dn ++ o.data).length ≤ 310 := by rw [List.length_append]; omega
       have HSe := aside X8.out.1
       clear HV7 HB9 HBa HPk
       change _ ∧ _
       refine ⟨HSe.out, ?_⟩
       (try dsimp only)
       (repeat (first | simp only [q1] | simp only [q2] | simp only [q3] | simp only [Act.put] | simp only [q4] | simp only [q5] | simp only [q6]))
       refine oneL (i := 12) (by kernel_rfl) rfl ?_
       (repeat (first | simp only [q1] | simp only [q2] | simp only [q3]))
       go_wp2_with (first
        | (at_builtin; refine wpList_bcat2 rfl (.tmp 90) (.tmp 93) rfl w1.heap.size rfl HV8.out rfl HU8.out (by omega) hz8 ?_; intro vf wf hvf hbf hkf)
        | fail)
       have X9 := aside (X8.out.grow hkf)
       have HBf : Hid (Below w1.heap.size w1 wf) := aside (HBb.out.trans hbf)
       have HSf := aside X9.out.1
       have eqf : xs ++ sizeL r.amt.toNat ++ sizeL r.ln ++ ((r.lk.take (j + 1)).map ROp.pl).flatMap opB = zs ++ sizeL o.op.toNat ++ sizeL o.n.toNat ++ (sizeL o.dn ++ o.data) := by
        rw [HN2.out, ← List.append_assoc, HZs.out, HOB.out, hdl]
        simp
       have HVf : Hid (BRow wf w1.heap.size vf (xs ++ sizeL r.amt.toNat ++ sizeL r.ln ++ ((r.lk.take (j + 1)).map ROp.pl).flatMap opB)) := aside (by rw [eqf]; exact hvf)
       have HLf : Hid ((xs ++ sizeL r.amt.toNat ++ sizeL r.ln ++ ((r.lk.take (j + 1)).map ROp.pl).flatMap opB).length ≤ 3000 + 25000 * k + 18 + 400 * (j + 1)) := aside (by
        rw [eqf, List.length_append]
        omega)
       clear hvf hbf hkf eqf
       change _ ∧ _
       refine ⟨HSf.out, ?_⟩
       (try dsimp only)
       (repeat (first | simp only [q1] | simp only [q2] | simp only [q3] | simp only [Act.put] | simp only [q4] | simp only [q5] | simp only [q6]))
       refine tkH (i := 13) (v := ?_) rfl (by kernel_rfl) (fun _ _ _ h => h) (Or.inl ⟨by rfl, ?_⟩) HSf.out ?_
       rotate_left
       ·(intro W hSw; (try dsimp only at hSw); go_simp; try with_reducible rfl)
       (repeat (first | simp only [q1] | simp only [q2] | simp only [q3] | simp only [Act.put] | simp only [q4] | simp only [q5] | simp only [q6]))
       refine wpAnyH_done (by kernel_rfl) ?_ _
       clear X3 X4 X5 X6 X7 X8 X9 HV8 HU8 HBb HSa HSb HSc HSd HSe HSf hz8
       go_wp2
       exact ⟨⟨j + 1, by omega, by go_num, HVf, HLf, HBf⟩, by simp [Go.RowKit.intOf]; omega⟩
      ·obtain rfl : r.ln = j := by omega
       have i0 : ((r.ln : Int) < (r.ln : Int)) = False := by simp
       have eqo : ys ++ sizeL (outs.map ROut.pl).length ++ ((outs.take (k + 1)).map ROut.pl).flatMap outB = xs ++ sizeL r.amt.toNat ++ sizeL r.ln ++ ((r.lk.take r.ln).map ROp.pl).flatMap opB := by
        rw [HNx.out, ← List.append_assoc, HXs.out, List.take_of_length_le (Nat.le_of_eq HLl.out)]
        show xs ++ (sizeL r.amt.toNat ++ sizeL (r.lk.map ROp.pl).length ++ (r.lk.map ROp.pl).flatMap opB) = _
        rw [List.length_map, HLl.out]
        simp
       have HVf : Hid (BRow wr w1.heap.size u3 (ys ++ sizeL (outs.map ROut.pl).length ++ ((outs.take (k + 1)).map ROut.pl).flatMap outB)) := aside (by rw [eqo]; exact HV.out)
       have HLf : Hid ((ys ++ sizeL (outs.map ROut.pl).length ++ ((outs.take (k + 1)).map ROut.pl).flatMap outB).length ≤ 3000 + 25000 * (k + 1)) := aside (by
        have h9 := HLj.out
        rw [eqo]
        omega)
       clear hjn HLj HV eqo
       go_wp2
       exact ⟨⟨k + 1, by omega, by go_num, HVf, HLf, HB⟩, by simp [Go.RowKit.intOf]; omega⟩
    ·obtain rfl : m = k := by omega
     have i0 : ((m : Int) < (m : Int)) = False := by simp
     rw [List.take_of_length_le (Nat.le_of_eq HLo.out)] at HV HLn
     have hTx : txB (ins.map RIn.pl) (outs.map ROut.pl) = ys ++ sizeL (outs.map ROut.pl).length ++ (outs.map ROut.pl).flatMap outB ++ sizeL 0 := by
      rw [sizeL_zero, ← HYs.out]
      rfl
     have HTx := aside hTx
     have x2 := (HX.out wr HB.out).2.2
     generalize ys ++ sizeL (outs.map ROut.pl).length ++ (outs.map ROut.pl).flatMap outB = zs at *
     clear hkn hTx
     go_wp2_with fail
     refine (size_int 0 (by omega) (by omega) wr).mono ?_
     rintro e w3 ⟨v3, rfl, hv3, hb3⟩
     have HV3 := aside (HV.out.below hb3)
     have HU3 := aside hv3
     have HB3 : Hid (Below w1.heap.size w1 w3) := aside (HB.out.trans (hb3.mono HB.out.size))
     have hz3 := HB3.out.size
     have hs3 := sizeL_len (0 : Int).toNat
     have hl3 := HLn.out
     clear hv3 hb3 x2 HV HB
     go_wp2_with (first
      | (at_builtin; refine wpList_bcat2 rfl (.tmp 97) (.tmp 100) rfl w1.heap.size rfl HV3.out rfl HU3.out (by omega) hz3 ?_; intro v4 w4 hv4 hb4 hk4)
      | fail)
     go_ret
     exact ⟨v4, rfl, by rw [HTx.out]; exact hv4.less (by rw [← EB.out]; omega), B1.out.trans ((HB3.out.trans hb4).mono B1.out.size)⟩
end Go.Proofs.YtbpabjhcjffkmaaGreatDoor
