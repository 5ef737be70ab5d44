/- The walk of WalletPay. Conditions: named in each theorem. -/
import Derived.Test.YtbpabjhcjffkmaaGreatDoorPayN
import Derived.Test.YtbpabjhcjffkmaaGreatDoorPayR
import Derived.Test.YtbpabjhcjffkmaaGreatDoorErr
namespace Go.Proofs.YtbpabjhcjffkmaaGreatDoor
open Go.RowKit Go.ChangeShapes Go.WideShapes Go.ChangeAt

set_option maxHeartbeats 40000000 in
set_option maxRecDepth 100000 in
theorem wpay_any (d : List Nat) (hd : d.length = 32) (hb : ∀ x ∈ d, x < 256) (n : Int) (cs : List RCoin) (A : Option Addr) (m c : Nat) (amt : Int) (rs : List ROp) (oA : Option Addr) (on oc : Nat) (fee : Int) (w : World) (h : CSl w w.heap.size A m cs) (hbt : ∀ r ∈ cs, ∀ x ∈ r.tx, x < 256) (ho : RSl w w.heap.size oA on rs) (hg : RoundsAt w) (hev : ErrVar w) :
  Calls Tryz.prog 3 #[digV d, .int .i64 n, .slice A m c, .agg #[.int .i64 amt, .slice oA on oc], .int .i64 fee] w (fun e w' => e = .returned (.bool true) ∧ Below w.heap.size w w') := by
 have B1 : Hid (Below w.heap.size w ((w.alloc (.cells (rowY d) 23)).alloc (.cells #[.int .i64 amt, .slice oA on oc] 27))) := aside (((Below.refl _ _).alloc (Nat.le_refl _) _).alloc (by simp) _)
 have D0 : Hid (BlkY ((w.alloc (.cells (rowY d) 23)).alloc (.cells #[.int .i64 amt, .slice oA on oc] 27)) w.heap.size 23 d) := aside ((BlkY.new w _ _).alloc _)
 have D1 : Hid (((w.alloc (.cells (rowY d) 23)).alloc (.cells #[.int .i64 amt, .slice oA on oc] 27)).heap[w.heap.size + 1]? = some (.cells #[.int .i64 amt, .slice oA on oc] 27 (0, 0))) := aside (by
  have h := heap_alloc_new (w.alloc (.cells (rowY d) 23)) (.cells #[.int .i64 amt, .slice oA on oc] 27)
  rwa [show (w.alloc (.cells (rowY d) 23)).heap.size = w.heap.size + 1 by simp] at h)
 have HO := aside ho
 have H := aside h
 have HBt := aside hbt
 have HDl := aside hd
 have HDb := aside hb
 have HG := aside hg
 have HEv := aside hev
 have HS7 := aside (zinfo d hd)
 clear ho hd hb hg hev h hbt
 unfold digV
 go_enter Tryz.func3, Tryz.ntmps3
 go_upto_region 1 with fail
 change Code.wp _ _ _ _ ((w.alloc (.cells (rowY d) 23)).alloc (.cells #[.int .i64 amt, .slice oA on oc] 27))
 generalize ((w.alloc (.cells (rowY d) 23)).alloc (.cells #[.int .i64 amt, .slice oA on oc] 27)) = w1 at B1 D0 D1 ⊢
 obtain ⟨B0, hB0⟩ : ∃ B0, B0 = w.heap.size := ⟨_, rfl⟩
 simp only [← hB0] at D0 D1 ⊢
 clear hB0
 obtain ⟨b1, hb1⟩ : ∃ b1, b1 = B0 + 1 := ⟨_, rfl⟩
 simp only [← hb1] at D1 ⊢
 clear hb1
 have HX : Hid (∀ W : World, Below w1.heap.size w1 W → BlkY W B0 23 d ∧ W.heap[b1]? = some (.cells #[.int .i64 amt, .slice oA on oc] 27 (0, 0))) := aside fun W hW =>
  ⟨D0.out.below hW D0.out.lt, (hW.block _ (Array.getElem?_eq_some_iff.1 D1.out).1).trans D1.out⟩
 clear D0 D1
 go_wp2_with fail
 refine (mine_any w1 (HG.out.below B1.out)).mono ?_
 rintro e w2 ⟨rfl, hb2⟩
 have HB2 := aside hb2
 have HBw2 : Hid (Below w.heap.size w w2) := aside (B1.out.trans (hb2.mono B1.out.size))
 clear hb2

 by_cases h4 : 4 < n
 ·by_cases h5 : n ≤ 100
  ·go_wp2
   go_ret
   exact ⟨rfl, HBw2.out⟩
  have h5' : (n ≤ 100) = False := by simp [h5]
  have h6 : 100 < n := by omega
  go_upto_region 4 with fail
  clear h4 h5 h5' h6
  have HB2w := aside HB2.out.size
  have HBx := aside (payment_any d HDl.out HDb.out n cs A m c amt rs oA on oc fee w2 ((H.out.below HBw2.out).more HBw2.out.size) HBt.out ((HO.out.below HBw2.out).more HBw2.out.size) (HG.out.below HBw2.out))
  have D0x := aside (HX.out w2 HB2.out).1
  have D1x := (HX.out w2 HB2.out).2
  have y0 : w2.cell? ⟨b1, 0, none⟩ = some (.int .i64 amt) := by rw [cell_of_row _ _ 0 _ _ _ D1x]; rfl
  have y1 : w2.cell? ⟨b1, 1, none⟩ = some (.slice oA on oc) := by rw [cell_of_row _ _ 1 _ _ _ D1x]; rfl
  clear D1x
  obtain ⟨R, hR⟩ : ∃ R, R = payQ d n cs amt (rs.map ROp.pl) fee := ⟨_, rfl⟩
  rw [← hR] at HBx
  have HR := aside hR
  clear hR
  go_wp2_with (first
   | (refine wpList_load_row rfl 23 (.tmp 5) rfl B0 rfl 23 (rowY d) (0, 0) _ D0x.out Tryz.underlying23 rfl HS7.out ?_)
   | fail)
  refine (show Calls _ _ #[digV d, _, _, _, _] _ _ from HBx.out).mono ?_
  rintro e w3 ⟨A1, n1, c1, O1, m1, k1, xs1, os1, rfl, ht1, ho1, hx1, hp1, hs1, hb3⟩
  have HT1 := aside ht1
  have HO1 := aside ho1
  have HX1 := aside hx1
  have HP1 := aside hp1
  have HB3 := aside (HB2.out.trans (hb3.mono HB2.out.size))
  have HB3a : Hid (Below w1.heap.size w1 (w3.alloc (.cells #[.slice A1 n1 c1, .slice O1 m1 k1, .int .i64 0] 32))) := aside (HB3.out.alloc HB3.out.size _)
  have B3a : Hid (Below w3.heap.size w3 (w3.alloc (.cells #[.slice A1 n1 c1, .slice O1 m1 k1, .int .i64 0] 32))) := aside ((Below.refl _ _).alloc (Nat.le_refl _) _)
  have DA : Hid ((w3.alloc (.cells #[.slice A1 n1 c1, .slice O1 m1 k1, .int .i64 0] 32)).heap[w3.heap.size]? = some (.cells #[.slice A1 n1 c1, .slice O1 m1 k1, .int .i64 0] 32 (0, 0))) := aside (heap_alloc_new _ _)
  clear ht1 ho1 hx1 hp1 hs1 hb3 HBx y0 y1 D0x
  go_upto_region 5 with fail
  change Code.wp _ _ _ _ (w3.alloc (.cells #[.slice A1 n1 c1, .slice O1 m1 k1, .int .i64 0] 32))
  generalize (w3.alloc (.cells #[.slice A1 n1 c1, .slice O1 m1 k1, .int .i64 0] 32)) = w4 at HB3a B3a DA ⊢
  obtain ⟨ba, hba⟩ : ∃ ba, ba = w3.heap.size := ⟨_, rfl⟩
  rw [← hba] at DA ⊢
  have hba4 : ba < w4.heap.size := (Array.getElem?_eq_some_iff.1 DA.out).1
  clear hba
  have HBw4 : Hid (Below w.heap.size w w4) := aside (B1.out.trans (HB3a.out.mono B1.out.size))
  have HT1b := aside (HT1.out.step B3a.out)
  have HO1b := aside (HO1.out.step B3a.out)
  have HBy := aside (pay_any d HDl.out HDb.out n cs A m c amt rs oA on oc fee w4 ((H.out.below HBw4.out).more HBw4.out.size) HBt.out ((HO.out.below HBw4.out).more HBw4.out.size) (HG.out.below HBw4.out))
  rw [← HR.out] at HBy
  have D0x := aside (HX.out w4 HB3a.out).1
  have D1x := (HX.out w4 HB3a.out).2
  have y0 : w4.cell? ⟨b1, 0, none⟩ = some (.int .i64 amt) := by rw [cell_of_row _ _ 0 _ _ _ D1x]; rfl
  have y1 : w4.cell? ⟨b1, 1, none⟩ = some (.slice oA on oc) := by rw [cell_of_row _ _ 1 _ _ _ D1x]; rfl
  clear D1x B3a HT1 HO1
  go_wp2_with (first
   | (refine wpList_load_row rfl 23 (.tmp 5) rfl B0 rfl 23 (rowY d) (0, 0) _ D0x.out Tryz.underlying23 rfl HS7.out ?_)
   | fail)
  refine (show Calls _ _ #[digV d, _, _, _, _] _ _ from HBy.out).mono ?_
  rintro e w5 ⟨A2, n2, c2, O2, m2, k2, xs2, os2, rfl, ht2, ho2, hx2, hp2, hs2, hb5⟩
  have HS2 := aside hs2
  have B5a : Hid (Below w5.heap.size w5 (w5.alloc (.cells #[.slice A2 n2 c2, .slice O2 m2 k2, .int .i64 0] 32))) := aside ((Below.refl _ _).alloc (Nat.le_refl _) _)
  have B45 : Hid (Below w4.heap.size w4 (w5.alloc (.cells #[.slice A2 n2 c2, .slice O2 m2 k2, .int .i64 0] 32))) := aside (hb5.trans (B5a.out.mono hb5.size))
  have DB : Hid ((w5.alloc (.cells #[.slice A2 n2 c2, .slice O2 m2 k2, .int .i64 0] 32)).heap[w5.heap.size]? = some (.cells #[.slice A2 n2 c2, .slice O2 m2 k2, .int .i64 0] 32 (0, 0))) := aside (heap_alloc_new _ _)
  have HT2b := aside (ht2.step B5a.out)
  have HO2b := aside (ho2.step B5a.out)
  have HXX : Hid (xs2.map inT = xs1.map inT) := aside (hx2.trans HX1.out.symm)
  have HPP : Hid (os2.map ROut.pl = os1.map ROut.pl) := aside (hp2.trans HP1.out.symm)
  clear ht2 ho2 hx2 hp2 hs2 hb5 HBy y0 y1 D0x HX1 HP1
  go_upto_region 6 with fail
  change Code.wp _ _ _ _ (w5.alloc (.cells #[.slice A2 n2 c2, .slice O2 m2 k2, .int .i64 0] 32))
  generalize (w5.alloc (.cells #[.slice A2 n2 c2, .slice O2 m2 k2, .int .i64 0] 32)) = w6 at B5a B45 DB HT2b HO2b ⊢
  obtain ⟨bb, hbb⟩ : ∃ bb, bb = w5.heap.size := ⟨_, rfl⟩
  rw [← hbb] at DB ⊢
  have hbb6 : bb < w6.heap.size := (Array.getElem?_eq_some_iff.1 DB.out).1
  clear hbb B5a
  have DA6 : Hid (w6.heap[ba]? = some (.cells #[.slice A1 n1 c1, .slice O1 m1 k1, .int .i64 0] 32 (0, 0))) := aside ((B45.out.block ba hba4).trans DA.out)
  have HT1c := aside (HT1b.out.step B45.out)
  have HO1c := aside (HO1b.out.step B45.out)
  have HBw6 : Hid (Below w.heap.size w w6) := aside (HBw4.out.trans (B45.out.mono HBw4.out.size))
  clear HT1b HO1b DA
  obtain ⟨E, hE⟩ : ∃ E, E = R.1 := ⟨_, rfl⟩
  rw [← hE]
  have HErr := aside (error_at (k := E) (j := E) (v := errP E) (w := w6) rfl (HEv.out.below (errVar_lt HEv.out) HBw6.out))
  clear hE
  go_wp2_with fail
  refine HErr.out.mono ?_
  rintro e w7 ⟨rfl, hb7⟩
  have HB67 := aside hb7
  have HBw7 : Hid (Below w.heap.size w w7) := aside (HBw6.out.trans (hb7.mono HBw6.out.size))
  have DA7 := (hb7.block ba (Array.getElem?_eq_some_iff.1 DA6.out).1).trans DA6.out
  have DB7 := (hb7.block bb hbb6).trans DB.out
  have hEE : (E == E) = true := by simp
  rw [hEE]
  have HSt := aside (stx_any xs2 xs1 os2 os1 HXX.out HPP.out A2 A1 O2 O1 n2 c2 n1 c1 m2 k2 m1 k1 HS2.out.1 HS2.out.2.1 w7 (HT2b.out.step hb7) (HT1c.out.step hb7) (HO2b.out.step hb7) (HO1c.out.step hb7) HS2.out.2.2)
  have z0 : w7.cell? ⟨ba, 0, none⟩ = some (.slice A1 n1 c1) := by rw [cell_of_row _ _ 0 _ _ _ DA7]; rfl
  have z1 : w7.cell? ⟨ba, 1, none⟩ = some (.slice O1 m1 k1) := by rw [cell_of_row _ _ 1 _ _ _ DA7]; rfl
  have z2 : w7.cell? ⟨ba, 2, none⟩ = some (.int .i64 0) := by rw [cell_of_row _ _ 2 _ _ _ DA7]; rfl
  have v0 : w7.cell? ⟨bb, 0, none⟩ = some (.slice A2 n2 c2) := by rw [cell_of_row _ _ 0 _ _ _ DB7]; rfl
  have v1 : w7.cell? ⟨bb, 1, none⟩ = some (.slice O2 m2 k2) := by rw [cell_of_row _ _ 1 _ _ _ DB7]; rfl
  have v2 : w7.cell? ⟨bb, 2, none⟩ = some (.int .i64 0) := by rw [cell_of_row _ _ 2 _ _ _ DB7]; rfl
  clear hb7 HErr DA7 DB7 hEE HT2b HO2b HT1c HO1c
  go_wp2_with fail
  refine HSt.out.mono ?_
  rintro e w8 ⟨rfl, hb8⟩
  have HBw8 : Hid (Below w.heap.size w w8) := aside (HBw7.out.trans (hb8.mono HBw7.out.size))
  clear hb8 HSt z0 z1 z2 v0 v1 v2
  go_wp2
  go_ret
  exact ⟨by simp, HBw8.out⟩
 ·have h4' : (4 < n) = False := by simp [h4]
  have h6 : n ≤ 4 := by omega
  go_upto_region 4 with fail
  clear h4 h4' h6
  have HB2w := aside HB2.out.size
  have HBx := aside (payment_any d HDl.out HDb.out n cs A m c amt rs oA on oc fee w2 ((H.out.below HBw2.out).more HBw2.out.size) HBt.out ((HO.out.below HBw2.out).more HBw2.out.size) (HG.out.below HBw2.out))
  have D0x := aside (HX.out w2 HB2.out).1
  have D1x := (HX.out w2 HB2.out).2
  have y0 : w2.cell? ⟨b1, 0, none⟩ = some (.int .i64 amt) := by rw [cell_of_row _ _ 0 _ _ _ D1x]; rfl
  have y1 : w2.cell? ⟨b1, 1, none⟩ = some (.slice oA on oc) := by rw [cell_of_row _ _ 1 _ _ _ D1x]; rfl
  clear D1x
  obtain ⟨R, hR⟩ : ∃ R, R = payQ d n cs amt (rs.map ROp.pl) fee := ⟨_, rfl⟩
  rw [← hR] at HBx
  have HR := aside hR
  clear hR
  go_wp2_with (first
   | (refine wpList_load_row rfl 23 (.tmp 5) rfl B0 rfl 23 (rowY d) (0, 0) _ D0x.out Tryz.underlying23 rfl HS7.out ?_)
   | fail)
  refine (show Calls _ _ #[digV d, _, _, _, _] _ _ from HBx.out).mono ?_
  rintro e w3 ⟨A1, n1, c1, O1, m1, k1, xs1, os1, rfl, ht1, ho1, hx1, hp1, hs1, hb3⟩
  have HT1 := aside ht1
  have HO1 := aside ho1
  have HX1 := aside hx1
  have HP1 := aside hp1
  have HB3 := aside (HB2.out.trans (hb3.mono HB2.out.size))
  have HB3a : Hid (Below w1.heap.size w1 (w3.alloc (.cells #[.slice A1 n1 c1, .slice O1 m1 k1, .int .i64 0] 32))) := aside (HB3.out.alloc HB3.out.size _)
  have B3a : Hid (Below w3.heap.size w3 (w3.alloc (.cells #[.slice A1 n1 c1, .slice O1 m1 k1, .int .i64 0] 32))) := aside ((Below.refl _ _).alloc (Nat.le_refl _) _)
  have DA : Hid ((w3.alloc (.cells #[.slice A1 n1 c1, .slice O1 m1 k1, .int .i64 0] 32)).heap[w3.heap.size]? = some (.cells #[.slice A1 n1 c1, .slice O1 m1 k1, .int .i64 0] 32 (0, 0))) := aside (heap_alloc_new _ _)
  clear ht1 ho1 hx1 hp1 hs1 hb3 HBx y0 y1 D0x
  go_upto_region 5 with fail
  change Code.wp _ _ _ _ (w3.alloc (.cells #[.slice A1 n1 c1, .slice O1 m1 k1, .int .i64 0] 32))
  generalize (w3.alloc (.cells #[.slice A1 n1 c1, .slice O1 m1 k1, .int .i64 0] 32)) = w4 at HB3a B3a DA ⊢
  obtain ⟨ba, hba⟩ : ∃ ba, ba = w3.heap.size := ⟨_, rfl⟩
  rw [← hba] at DA ⊢
  have hba4 : ba < w4.heap.size := (Array.getElem?_eq_some_iff.1 DA.out).1
  clear hba
  have HBw4 : Hid (Below w.heap.size w w4) := aside (B1.out.trans (HB3a.out.mono B1.out.size))
  have HT1b := aside (HT1.out.step B3a.out)
  have HO1b := aside (HO1.out.step B3a.out)
  have HBy := aside (pay_any d HDl.out HDb.out n cs A m c amt rs oA on oc fee w4 ((H.out.below HBw4.out).more HBw4.out.size) HBt.out ((HO.out.below HBw4.out).more HBw4.out.size) (HG.out.below HBw4.out))
  rw [← HR.out] at HBy
  have D0x := aside (HX.out w4 HB3a.out).1
  have D1x := (HX.out w4 HB3a.out).2
  have y0 : w4.cell? ⟨b1, 0, none⟩ = some (.int .i64 amt) := by rw [cell_of_row _ _ 0 _ _ _ D1x]; rfl
  have y1 : w4.cell? ⟨b1, 1, none⟩ = some (.slice oA on oc) := by rw [cell_of_row _ _ 1 _ _ _ D1x]; rfl
  clear D1x B3a HT1 HO1
  go_wp2_with (first
   | (refine wpList_load_row rfl 23 (.tmp 5) rfl B0 rfl 23 (rowY d) (0, 0) _ D0x.out Tryz.underlying23 rfl HS7.out ?_)
   | fail)
  refine (show Calls _ _ #[digV d, _, _, _, _] _ _ from HBy.out).mono ?_
  rintro e w5 ⟨A2, n2, c2, O2, m2, k2, xs2, os2, rfl, ht2, ho2, hx2, hp2, hs2, hb5⟩
  have HS2 := aside hs2
  have B5a : Hid (Below w5.heap.size w5 (w5.alloc (.cells #[.slice A2 n2 c2, .slice O2 m2 k2, .int .i64 0] 32))) := aside ((Below.refl _ _).alloc (Nat.le_refl _) _)
  have B45 : Hid (Below w4.heap.size w4 (w5.alloc (.cells #[.slice A2 n2 c2, .slice O2 m2 k2, .int .i64 0] 32))) := aside (hb5.trans (B5a.out.mono hb5.size))
  have DB : Hid ((w5.alloc (.cells #[.slice A2 n2 c2, .slice O2 m2 k2, .int .i64 0] 32)).heap[w5.heap.size]? = some (.cells #[.slice A2 n2 c2, .slice O2 m2 k2, .int .i64 0] 32 (0, 0))) := aside (heap_alloc_new _ _)
  have HT2b := aside (ht2.step B5a.out)
  have HO2b := aside (ho2.step B5a.out)
  have HXX : Hid (xs2.map inT = xs1.map inT) := aside (hx2.trans HX1.out.symm)
  have HPP : Hid (os2.map ROut.pl = os1.map ROut.pl) := aside (hp2.trans HP1.out.symm)
  clear ht2 ho2 hx2 hp2 hs2 hb5 HBy y0 y1 D0x HX1 HP1
  go_upto_region 6 with fail
  change Code.wp _ _ _ _ (w5.alloc (.cells #[.slice A2 n2 c2, .slice O2 m2 k2, .int .i64 0] 32))
  generalize (w5.alloc (.cells #[.slice A2 n2 c2, .slice O2 m2 k2, .int .i64 0] 32)) = w6 at B5a B45 DB HT2b HO2b ⊢
  obtain ⟨bb, hbb⟩ : ∃ bb, bb = w5.heap.size := ⟨_, rfl⟩
  rw [← hbb] at DB ⊢
  have hbb6 : bb < w6.heap.size := (Array.getElem?_eq_some_iff.1 DB.out).1
  clear hbb B5a
  have DA6 : Hid (w6.heap[ba]? = some (.cells #[.slice A1 n1 c1, .slice O1 m1 k1, .int .i64 0] 32 (0, 0))) := aside ((B45.out.block ba hba4).trans DA.out)
  have HT1c := aside (HT1b.out.step B45.out)
  have HO1c := aside (HO1b.out.step B45.out)
  have HBw6 : Hid (Below w.heap.size w w6) := aside (HBw4.out.trans (B45.out.mono HBw4.out.size))
  clear HT1b HO1b DA
  obtain ⟨E, hE⟩ : ∃ E, E = R.1 := ⟨_, rfl⟩
  rw [← hE]
  have HErr := aside (error_at (k := E) (j := E) (v := errP E) (w := w6) rfl (HEv.out.below (errVar_lt HEv.out) HBw6.out))
  clear hE
  go_wp2_with fail
  refine HErr.out.mono ?_
  rintro e w7 ⟨rfl, hb7⟩
  have HB67 := aside hb7
  have HBw7 : Hid (Below w.heap.size w w7) := aside (HBw6.out.trans (hb7.mono HBw6.out.size))
  have DA7 := (hb7.block ba (Array.getElem?_eq_some_iff.1 DA6.out).1).trans DA6.out
  have DB7 := (hb7.block bb hbb6).trans DB.out
  have hEE : (E == E) = true := by simp
  rw [hEE]
  have HSt := aside (stx_any xs2 xs1 os2 os1 HXX.out HPP.out A2 A1 O2 O1 n2 c2 n1 c1 m2 k2 m1 k1 HS2.out.1 HS2.out.2.1 w7 (HT2b.out.step hb7) (HT1c.out.step hb7) (HO2b.out.step hb7) (HO1c.out.step hb7) HS2.out.2.2)
  have z0 : w7.cell? ⟨ba, 0, none⟩ = some (.slice A1 n1 c1) := by rw [cell_of_row _ _ 0 _ _ _ DA7]; rfl
  have z1 : w7.cell? ⟨ba, 1, none⟩ = some (.slice O1 m1 k1) := by rw [cell_of_row _ _ 1 _ _ _ DA7]; rfl
  have z2 : w7.cell? ⟨ba, 2, none⟩ = some (.int .i64 0) := by rw [cell_of_row _ _ 2 _ _ _ DA7]; rfl
  have v0 : w7.cell? ⟨bb, 0, none⟩ = some (.slice A2 n2 c2) := by rw [cell_of_row _ _ 0 _ _ _ DB7]; rfl
  have v1 : w7.cell? ⟨bb, 1, none⟩ = some (.slice O2 m2 k2) := by rw [cell_of_row _ _ 1 _ _ _ DB7]; rfl
  have v2 : w7.cell? ⟨bb, 2, none⟩ = some (.int .i64 0) := by rw [cell_of_row _ _ 2 _ _ _ DB7]; rfl
  clear hb7 HErr DA7 DB7 hEE HT2b HO2b HT1c HO1c
  go_wp2_with fail
  refine HSt.out.mono ?_
  rintro e w8 ⟨rfl, hb8⟩
  have HBw8 : Hid (Below w.heap.size w w8) := aside (HBw7.out.trans (hb8.mono HBw7.out.size))
  clear hb8 HSt z0 z1 z2 v0 v1 v2
  go_wp2
  go_ret
  exact ⟨by simp, HBw8.out⟩
end Go.Proofs.YtbpabjhcjffkmaaGreatDoor
