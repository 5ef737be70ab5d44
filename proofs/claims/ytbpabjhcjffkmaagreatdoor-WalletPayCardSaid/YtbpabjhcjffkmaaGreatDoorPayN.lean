/- wallet.Pay: the walk. Conditions: named in each theorem. -/
import Derived.Test.YtbpabjhcjffkmaaGreatDoorPayQ
import Derived.Test.YtbpabjhcjffkmaaGreatDoorSigD
import Derived.Test.YtbpabjhcjffkmaaGreatDoorPickU
import Derived.Test.YtbpabjhcjffkmaaGreatDoorRefU
import Derived.OrdersHeld
import Derived.Deep.RegionHeld3
import Derived.Deep.MidRow
import Derived.Deep.CutRange
namespace Go.Proofs.YtbpabjhcjffkmaaGreatDoor
open Go.RowKit Go.ChangeShapes Go.WideShapes Go.ChangeAt

set_option maxHeartbeats 40000000 in
set_option maxRecDepth 100000 in
theorem pay_any (d : List Nat) (hd : d.length = 32) (hb : ∀ x ∈ d, x < 256) (n : Int) (cs : List RCoin) (A : Option Addr) (m c : Nat) (amt : Int) (rs : List ROp) (oA : Option Addr) (on oc : Nat) (fee : Int) (w : World) (h : CSl w w.heap.size A m cs) (hbt : ∀ r ∈ cs, ∀ x ∈ r.tx, x < 256) (ho : RSl w w.heap.size oA on rs) (hg : RoundsAt w) :
  Calls Tryz.prog 6 #[digV d, .int .i64 n, .slice A m c, .agg #[.int .i64 amt, .slice oA on oc], .int .i64 fee] w (PaidAs (payQ d n cs amt (rs.map ROp.pl) fee) errP w) := by
 have B1 : Hid (Below w.heap.size w (((w.alloc (.cells (rowY d) 23)).alloc (.cells #[.int .i64 amt, .slice oA on oc] 27)).alloc (.cells #[.slice none 0 0, .slice none 0 0, .int .i64 0] 32))) := aside ((((Below.refl _ _).alloc (Nat.le_refl _) _).alloc (by simp) _).alloc (by simp; omega) _)
 have D0 : Hid (BlkY (((w.alloc (.cells (rowY d) 23)).alloc (.cells #[.int .i64 amt, .slice oA on oc] 27)).alloc (.cells #[.slice none 0 0, .slice none 0 0, .int .i64 0] 32)) w.heap.size 23 d) := aside (((BlkY.new w _ _).alloc _).alloc _)
 have D1 : Hid ((((w.alloc (.cells (rowY d) 23)).alloc (.cells #[.int .i64 amt, .slice oA on oc] 27)).alloc (.cells #[.slice none 0 0, .slice none 0 0, .int .i64 0] 32)).heap[w.heap.size + 1]? = some (.cells #[.int .i64 amt, .slice oA on oc] 27 (0, 0))) := aside (by
  have h := heap_alloc_new (w.alloc (.cells (rowY d) 23)) (.cells #[.int .i64 amt, .slice oA on oc] 27)
  rw [show (w.alloc (.cells (rowY d) 23)).heap.size = w.heap.size + 1 by simp] at h
  exact (Below.heap_alloc _ _ _ (by simp)).trans h)
 have D2 : Hid ((((w.alloc (.cells (rowY d) 23)).alloc (.cells #[.int .i64 amt, .slice oA on oc] 27)).alloc (.cells #[.slice none 0 0, .slice none 0 0, .int .i64 0] 32)).heap[w.heap.size + 1 + 1]? = some (.cells #[.slice none 0 0, .slice none 0 0, .int .i64 0] 32 (0, 0))) := aside (by
  have h := heap_alloc_new ((w.alloc (.cells (rowY d) 23)).alloc (.cells #[.int .i64 amt, .slice oA on oc] 27)) (.cells #[.slice none 0 0, .slice none 0 0, .int .i64 0] 32)
  rwa [show ((w.alloc (.cells (rowY d) 23)).alloc (.cells #[.int .i64 amt, .slice oA on oc] 27)).heap.size = w.heap.size + 1 + 1 by simp] at h)
 obtain ⟨R, hR⟩ : ∃ R, R = payQ d n cs amt (rs.map ROp.pl) fee := ⟨_, rfl⟩
 rw [← hR]
 have HR := aside hR
 have hl := h.len
 have HL := aside hl
 have HO := aside ho
 have H := aside h
 have HBt := aside hbt
 have HDl := aside hd
 have HDb := aside hb
 have HG := aside hg
 have HS7 := aside (zinfo d hd)
 clear hl ho hd hb hg h hbt hR
 unfold digV
 go_enter Tryz.func6, Tryz.ntmps6
 go_upto_region 1 with fail
 change Code.wp _ _ _ _ (((w.alloc (.cells (rowY d) 23)).alloc (.cells #[.int .i64 amt, .slice oA on oc] 27)).alloc (.cells #[.slice none 0 0, .slice none 0 0, .int .i64 0] 32))
 generalize (((w.alloc (.cells (rowY d) 23)).alloc (.cells #[.int .i64 amt, .slice oA on oc] 27)).alloc (.cells #[.slice none 0 0, .slice none 0 0, .int .i64 0] 32)) = w1 at B1 D0 D1 D2 ⊢
 obtain ⟨B0, hB0⟩ : ∃ B0, B0 = w.heap.size := ⟨_, rfl⟩
 have EB := aside hB0
 simp only [← hB0] at D0 D1 D2 ⊢
 clear hB0
 obtain ⟨b2, hb2⟩ : ∃ b2, b2 = B0 + 1 + 1 := ⟨_, rfl⟩
 simp only [← hb2] at D2 ⊢
 have Eb2 := aside hb2
 clear hb2
 obtain ⟨b1, hb1⟩ : ∃ b1, b1 = B0 + 1 := ⟨_, rfl⟩
 simp only [← hb1] at D1 ⊢
 have Eb1 := aside hb1
 clear hb1
 have HX : Hid (∀ W : World, Below w1.heap.size w1 W → BlkY W B0 23 d ∧ W.heap[b1]? = some (.cells #[.int .i64 amt, .slice oA on oc] 27 (0, 0)) ∧ W.heap[b2]? = some (.cells #[.slice none 0 0, .slice none 0 0, .int .i64 0] 32 (0, 0))) := aside fun W hW =>
  ⟨D0.out.below hW D0.out.lt, (hW.block _ (Array.getElem?_eq_some_iff.1 D1.out).1).trans D1.out, (hW.block _ (Array.getElem?_eq_some_iff.1 D2.out).1).trans D2.out⟩
 clear D0 D1 D2
 go_wp2_with fail
 refine (checked_any n cs A m c w1 (H.out.step B1.out)).mono ?_
 rintro e w2 ⟨rfl, hb2⟩
 have HB2 := aside hb2
 clear hb2
 by_cases hq1 : chQ n cs = 0
 case neg =>
  rw [errP_no hq1]
  have HE := aside (errP_no hq1)
  have HP := aside (pay1 (amt := amt) (l := rs.map ROp.pl) (fee := fee) (d := d) hq1)
  generalize chQ n cs = q1 at hq1 HE HP
  clear hq1
  have D2x : Hid (w2.heap[b2]? = some (.cells #[.slice none 0 0, .slice none 0 0, .int .i64 0] 32 (0, 0))) := aside ((HX.out w2 HB2.out).2.2)
  have HS9 : Hid ((Tryz.prog.info? 32).map (·.size) = some (#[.slice none 0 0, .slice none 0 0, .int .i64 0] : Array Value).size) := aside (by kernel_rfl)
  have HbX : Hid (Below w.heap.size w w2) := aside (B1.out.trans ((HB2.out).mono B1.out.size))
  have xc0 : w2.cell? ⟨b2, 0, none⟩ = some (.slice none 0 0) := by rw [cell_of_row _ _ 0 _ _ _ D2x.out]; rfl
  have xc1 : w2.cell? ⟨b2, 1, none⟩ = some (.slice none 0 0) := by rw [cell_of_row _ _ 1 _ _ _ D2x.out]; rfl
  have xc2 : w2.cell? ⟨b2, 2, none⟩ = some (.int .i64 0) := by rw [cell_of_row _ _ 2 _ _ _ D2x.out]; rfl
  have xf0 : w2.frozen? ⟨b2, 0, none⟩ = false := frozen_of_row _ _ _ _ _ D2x.out
  have xf1 : w2.frozen? ⟨b2, 1, none⟩ = false := frozen_of_row _ _ _ _ _ D2x.out
  have xf2 : w2.frozen? ⟨b2, 2, none⟩ = false := frozen_of_row _ _ _ _ _ D2x.out
  go_wp2_with fail
  (try simp only [Exit.inBlock, Exit.then])
  refine bodyPost_ret (results_cell_tmp rfl _ _ b2 32 #[.slice none 0 0, .slice none 0 0, .int .i64 0] (0, 0) _ rfl (set3 D2x.out _ _ _) Tryz.underlying32 rfl HS9.out) rfl ?_
  rw [HR.out, HP.out]
  rw [← HE.out]
  exact paid_none (below_set3 HbX.out (by rw [Eb2.out, EB.out]; omega) _ _ _)
 case pos =>
 rw [hq1, show errP 0 = Value.nilIface from rfl]
 obtain ⟨hn1, hn2, hsQ, hm1⟩ := chQ_zero hq1
 have HQ1 := aside hq1
 have HsQ := aside hsQ
 have HCs := aside (coin_short H.out hsQ)
 have hmm : m ≤ 1000 := by have := HL.out; omega
 have HWn := aside (show Calls _ _ #[.agg #[.int .i64 amt, .slice oA on oc], .int .i64 fee] _ _ from wanted_any amt rs oA on oc fee w2 ((HO.out.below (B1.out.trans (HB2.out.mono B1.out.size))).more (B1.out.trans (HB2.out.mono B1.out.size)).size))
 have D1x := (HX.out w2 HB2.out).2.1
 have y0 : w2.cell? ⟨b1, 0, none⟩ = some (.int .i64 amt) := by rw [cell_of_row _ _ 0 _ _ _ D1x]; rfl
 have y1 : w2.cell? ⟨b1, 1, none⟩ = some (.slice oA on oc) := by rw [cell_of_row _ _ 1 _ _ _ D1x]; rfl
 obtain ⟨Wq, hWq⟩ : ∃ Wq, Wq = wantQ amt (rs.map ROp.pl) fee := ⟨_, rfl⟩
 have HWq := aside hWq
 rw [← hWq] at HWn
 clear hq1 hsQ hm1 D1x hWq
 go_wp2_with fail
 refine HWn.out.mono ?_
 rintro e w3 ⟨rfl, hb3⟩
 have HB3 : Hid (Below w1.heap.size w1 w3) := aside (HB2.out.trans (hb3.mono HB2.out.size))
 clear hb3 HWn y0 y1 HB2
 by_cases hq2 : Wq.2 = 0
 case neg =>
  rw [errP_no hq2]
  have HE := aside (errP_no hq2)
  have HP := aside (pay2 (d := d) HQ1.out (by rw [← HWq.out]; exact hq2))
  rw [← HWq.out] at HP
  generalize Wq.2 = q2 at hq2 HE HP
  clear hq2
  have D2x : Hid (w3.heap[b2]? = some (.cells #[.slice none 0 0, .slice none 0 0, .int .i64 0] 32 (0, 0))) := aside ((HX.out w3 HB3.out).2.2)
  have HS9 : Hid ((Tryz.prog.info? 32).map (·.size) = some (#[.slice none 0 0, .slice none 0 0, .int .i64 0] : Array Value).size) := aside (by kernel_rfl)
  have HbX : Hid (Below w.heap.size w w3) := aside (B1.out.trans ((HB3.out).mono B1.out.size))
  have xc0 : w3.cell? ⟨b2, 0, none⟩ = some (.slice none 0 0) := by rw [cell_of_row _ _ 0 _ _ _ D2x.out]; rfl
  have xc1 : w3.cell? ⟨b2, 1, none⟩ = some (.slice none 0 0) := by rw [cell_of_row _ _ 1 _ _ _ D2x.out]; rfl
  have xc2 : w3.cell? ⟨b2, 2, none⟩ = some (.int .i64 0) := by rw [cell_of_row _ _ 2 _ _ _ D2x.out]; rfl
  have xf0 : w3.frozen? ⟨b2, 0, none⟩ = false := frozen_of_row _ _ _ _ _ D2x.out
  have xf1 : w3.frozen? ⟨b2, 1, none⟩ = false := frozen_of_row _ _ _ _ _ D2x.out
  have xf2 : w3.frozen? ⟨b2, 2, none⟩ = false := frozen_of_row _ _ _ _ _ D2x.out
  go_wp2_with fail
  (try simp only [Exit.inBlock, Exit.then])
  refine bodyPost_ret (results_cell_tmp rfl _ _ b2 32 #[.slice none 0 0, .slice none 0 0, .int .i64 0] (0, 0) _ rfl (set3 D2x.out _ _ _) Tryz.underlying32 rfl HS9.out) rfl ?_
  rw [HR.out, HP.out]
  rw [← HE.out]
  exact paid_none (below_set3 HbX.out (by rw [Eb2.out, EB.out]; omega) _ _ _)
 case pos =>
 rw [hq2, show errP 0 = Value.nilIface from rfl]
 obtain ⟨want, hwant⟩ : ∃ want, want = Wq.1 := ⟨_, rfl⟩
 rw [← hwant]
 obtain ⟨hma, hlq⟩ := wantQ_zero (by rw [← HWq.out]; exact hq2)
 have HMa := aside hma
 have HLq := aside hlq
 have HW2 : Hid ((wantQ amt (rs.map ROp.pl) fee).2 = 0) := aside (by rw [← HWq.out]; exact hq2)
 have HW1 : Hid ((wantQ amt (rs.map ROp.pl) fee).1 = want) := aside (by rw [← HWq.out, hwant])
 clear hma hlq hq2 hwant HWq
 clear Wq
 have HBw3 : Hid (Below w.heap.size w w3) := aside (B1.out.trans (HB3.out.mono B1.out.size))
 have D0x := aside (HX.out w3 HB3.out).1
 go_wp2_with (first
  | (refine wpList_load_row rfl 23 (.tmp 5) rfl B0 rfl 23 (rowY d) (0, 0) _ D0x.out Tryz.underlying23 rfl HS7.out ?_)
  | fail)
 refine (show Calls _ _ #[digV d, _] _ _ from locksM_any d HDl.out HDb.out n hn2 w3 (HG.out.below HBw3.out)).mono ?_
 rintro e w4 ⟨A1, c1, ls, hNc, rfl, hls, hlr, hlp, hb4⟩
 have HLs := aside hls
 have HLr := aside hlr
 have HLp := aside hlp
 have HB4 : Hid (Below w1.heap.size w1 w4) := aside (HB3.out.trans (hb4.mono HB3.out.size))
 have HBw4 : Hid (Below w.heap.size w w4) := aside (B1.out.trans (HB4.out.mono B1.out.size))
 obtain ⟨N, hN⟩ : ∃ N, N = n.toNat := ⟨_, rfl⟩
 have HN := aside hN
 rw [← hN] at HLs HLp hNc ⊢
 have hN0 : 0 < N := by omega
 have hN1 : N ≤ 100 := by omega
 clear hls hlr hlp hb4 D0x hN HB3 HBw3 hNc
 have HOw := aside (ownM_any ls cs A1 A N c1 m c hN1 hmm w4 HLs.out HLr.out ((H.out.below HBw4.out).more HBw4.out.size) HCs.out)
 go_wp2_with fail
 refine HOw.out.mono ?_
 rintro e w5 ⟨A2, m2, c2, qs, hm2, hmc2, rfl, hcq, hky, hb5⟩
 have HCq := aside hcq
 have HKy := aside hky
 have HLs5 : Hid (Sl w5 w5.heap.size 1 A1 N (ls.map lkV)) := aside ((Sl.below HLs.out hb5).more hb5.size)
 have HLr5 : Hid (∀ l ∈ ls, RSl w5 w5.heap.size l.1 2 l.2) := aside (fun l hl => ((HLr.out l hl).below hb5).more hb5.size)
 have HB5 : Hid (Below w1.heap.size w1 w5) := aside (HB4.out.trans (hb5.mono HB4.out.size))
 have HBw5 : Hid (Below w.heap.size w w5) := aside (B1.out.trans (HB5.out.mono B1.out.size))
 clear hcq hky hb5 HOw HLs HLr HB4 HBw4
 obtain ⟨K, hK⟩ : ∃ K : Nat, K = min m2 30 := ⟨_, rfl⟩
 have hmn : min (m2 : Int) 30 = (K : Int) := by omega
 have hK30 : K ≤ 30 := by omega
 have sb0 : (0 : Int) ≤ (K : Int) := by omega
 have sb1 : (K : Int) ≤ (c2 : Int) := by omega
 obtain ⟨ms, hms⟩ : ∃ ms, ms = qs.take 30 := ⟨_, rfl⟩
 have hmk : ms = qs.take K := by
  have hq := HCq.out.len
  rcases Nat.lt_or_ge 30 m2 with h9 | h9
  ·rw [hms, hK, Nat.min_eq_right (by omega)]
  ·rw [hms, hK, Nat.min_eq_left (by omega), List.take_of_length_le (by omega), List.take_of_length_le (by omega)]
 have HCm : Hid (CSl w5 w5.heap.size A2 K ms) := aside (by rw [hmk]; exact HCq.out.take (by omega))
 have HMk : Hid (ms.map RCoin.key = ((cs.filter (keepC ((List.range n.toNat).map (lockL d)))).map RCoin.key).take 30) := aside (by rw [hms, List.map_take, HKy.out, HLp.out, HN.out])
 have HMs : Hid (MineOk ((List.range n.toNat).map (lockL d)) ms) := aside (by
  rw [hms]
  refine mine_ok HsQ.out H.out.tx HBt.out ?_
  rw [HKy.out, HLp.out, HN.out])
 clear hmk hms hm2 HCq HKy
 go_upto_region 10 with fail
 simp only [← hK]
 clear hK hmn sb0 sb1 hmc2
 have hmsl := HCm.out.len
 have HMl := aside hmsl
 clear hmsl
 obtain ⟨ns, hns⟩ : ∃ ns : List Int, ns = ms.map (·.amt) := ⟨_, rfl⟩
 have HNs := aside hns
 have hnsl : ns.length = K := by rw [hns, List.length_map]; exact HMl.out
 have HNl := aside hnsl
 clear hns hnsl
 go_wp2_with fail
 have HOn0 : Hid (Pk.OwnZ w5 w5.heap.size (.slice none 0 0) 0 (ns.take 0)) := aside (Pk.ownZ_nil _ _)
 have HB50 := aside (Below.refl w5.heap.size w5)
 go_loopw [17, 59] (fun v17 v59 wr => ∃ (k : Nat) (I : Option Addr) (kc : Nat), k ≤ K ∧ v59 = .int .i64 k ∧ v17 = .slice I k kc ∧ Hid (Pk.OwnZ wr w5.heap.size (.slice I k kc) k (ns.take k)) ∧ Hid (Below w5.heap.size w5 wr)) (fun _ v59 _ => K - (Go.RowKit.intOf v59).toNat)
 case atStart => exact ⟨0, none, 0, Nat.zero_le _, rfl, rfl, HOn0, HB50⟩
 case round =>
  clear HOn0 HB50
  obtain ⟨k, I, kc, hk, rfl, rfl, HOn, HB⟩ := hrel
  by_cases hkn : k < K
  ·have k0 : (k : Int) < (K : Int) := by omega
   have hwz := HB.out.size
   obtain ⟨b, of, hAe, hb1x, hrg⟩ := (HCm.out.below HB.out).at_ hkn
   have htk : ns.take (k + 1) = ns.take k ++ [(ms.getD k noC).amt] := by
    have e9 : ns.getD k 0 = (ms.getD k noC).amt := by
     rw [HNs.out]
     exact map_getD (fun r : RCoin => r.amt) noC 0 (by have := HMl.out; omega)
    rw [take_getD 0 (by have := HNl.out; omega), e9]
   generalize ms.getD k noC = r at *
   have HRg := aside hrg
   have HTk := aside htk
   have HS1 : Hid ((Tryz.prog.info? 57).map (·.size) = some (encC r).length) := aside (by rw [encC_len]; kernel_rfl)
   have HS9 : Hid ((Tryz.prog.info? 57).map (·.size) = some (encC r).toArray.size) := aside (by simp only [List.size_toArray, encC_len]; kernel_rfl)
   have HS8 : Hid ((encC noC).toArray.size = (encC r).toArray.size) := aside (by simp only [List.size_toArray, encC_len])
   have HO1 : Hid ((encC r).toArray.all (·.oneCell') = true) := aside (all_oneCell_toArray (encC_one r))
   have DX : Hid ((wr.alloc (.cells (encC noC).toArray 57)).heap[wr.heap.size]? = some (.cells (encC noC).toArray 57 (0, 0))) := aside (heap_alloc_new _ _)
   subst hAe
   clear hrg hb1x htk
   go_upto_region 14 with (first
    | (refine wpList_load_mid rfl 57 (.tmp 61) rfl b (of + k * 36) rfl (encC r) _ HRg.out Tryz.underlying57 rfl HS1.out ?_)
    | (refine wpList_store_row rfl 57 (.tmp 19) (.tmp 62) rfl wr.heap.size (encC r).toArray rfl rfl 57 (encC noC).toArray DX.out HS9.out HS8.out HO1.out ?_)
    | fail)
   have HBr : Hid (Below wr.heap.size wr ((wr.alloc (.cells (encC noC).toArray 57)).setRow wr.heap.size (encC r).toArray)) := aside (below_setRow ((Below.refl _ _).alloc (Nat.le_refl _) _) _ (Nat.le_refl _) _)
   have DX2 : Hid (((wr.alloc (.cells (encC noC).toArray 57)).setRow wr.heap.size (encC r).toArray).heap[wr.heap.size]? = some (.cells (encC r).toArray 57 (0, 0))) := aside (setRow_heap _ _ _ _ _ _ DX.out)
   change Code.wp _ _ _ _ ((wr.alloc (.cells (encC noC).toArray 57)).setRow wr.heap.size (encC r).toArray)
   generalize ((wr.alloc (.cells (encC noC).toArray 57)).setRow wr.heap.size (encC r).toArray) = wy at HBr DX2 ⊢
   obtain ⟨bx, hbx⟩ : ∃ bx, bx = wr.heap.size := ⟨_, rfl⟩
   simp only [← hbx] at DX2 ⊢
   have HOn2 : Hid (Pk.OwnZ wy w5.heap.size (.slice I k kc) k (ns.take k)) := aside (own_below HOn.out HBr.out)
   have HB2 : Hid (Below w5.heap.size w5 wy) := aside (HB.out.trans (HBr.out.mono hwz))
   have hz2 := HB2.out.size
   have y0 : wy.cell? ⟨bx, 33, none⟩ = some (.int .i64 r.amt) := by rw [cell_of_row _ _ 33 _ _ _ DX2.out, List.getElem?_toArray]; exact encC_at r 1
   clear hbx DX DX2 HBr HOn HB HRg HS1 HS9 HS8 HO1
   go_wp2_with (first
    | (at_builtin; refine wpList_push rfl (.tmp 63) (.tmp 67) 50 rfl w5.heap.size _ 1 8 Tryz.underlying50 intInfo rfl (by decide) (.slice I k kc) k _ rfl rfl rfl rfl HOn2.out (by omega) (by unfold maxLen; omega) hz2 ?_; intro A3 c3 w7 hc3 hc3' hown3 hb3 hz3 hg3)
    | fail)
   have HOn3 : Hid (Pk.OwnZ w7 w5.heap.size (.slice A3 (k + 1) c3) (k + 1) (ns.take (k + 1))) := aside (by rw [HTk.out]; show w7.ownsRow _ _ _ _ _ _; rw [List.map_append]; exact hown3)
   have HB3 : Hid (Below w5.heap.size w5 w7) := aside (HB2.out.trans hb3)
   clear hown3 hb3 hg3
   exact ⟨⟨k + 1, A3, c3, by omega, by go_num, rfl, HOn3, HB3⟩, by simp [Go.RowKit.intOf]; omega⟩
  ·obtain rfl : K = k := by omega
   have i0 : ((K : Int) < (K : Int)) = False := by simp
   have HIs : Hid (ISl wr wr.heap.size I K ns) := aside (by
    have h9 := Pk.ownZ_isl HOn.out
    rwa [List.take_of_length_le (Nat.le_of_eq HNl.out)] at h9)
   clear HOn hkn
   have HBw : Hid (Below w1.heap.size w1 wr) := aside (HB5.out.trans (HB.out.mono HB5.out.size))
   by_cases hpq : Pk.pickQ ns want = 0
   case neg =>
    have HGb := aside (Pk.great_bad ns I K kc want wr HIs.out hpq)
    have HP : Hid (payQ d n cs amt (rs.map ROp.pl) fee = (Pk.pickQ ns want, [], [])) := aside (by
     have h9 := pay3 (d := d) HQ1.out HW2.out HMk.out (by rw [← HNs.out, HW1.out]; exact hpq)
     rwa [← HNs.out, HW1.out] at h9)
    have HE := aside (errP_no hpq)
    go_wp2_with fail
    refine HGb.out.mono ?_
    rintro e w6 ⟨rfl, hb6⟩
    have HB6 : Hid (Below w1.heap.size w1 w6) := aside (HBw.out.trans (hb6.mono HBw.out.size))
    clear hb6 HGb HBw HB
    generalize Pk.pickQ ns want = q3 at hpq HE HP
    clear hpq
    have D2x : Hid (w6.heap[b2]? = some (.cells #[.slice none 0 0, .slice none 0 0, .int .i64 0] 32 (0, 0))) := aside ((HX.out w6 HB6.out).2.2)
    have HS9 : Hid ((Tryz.prog.info? 32).map (·.size) = some (#[.slice none 0 0, .slice none 0 0, .int .i64 0] : Array Value).size) := aside (by kernel_rfl)
    have HbX : Hid (Below w.heap.size w w6) := aside (B1.out.trans ((HB6.out).mono B1.out.size))
    have xc0 : w6.cell? ⟨b2, 0, none⟩ = some (.slice none 0 0) := by rw [cell_of_row _ _ 0 _ _ _ D2x.out]; rfl
    have xc1 : w6.cell? ⟨b2, 1, none⟩ = some (.slice none 0 0) := by rw [cell_of_row _ _ 1 _ _ _ D2x.out]; rfl
    have xc2 : w6.cell? ⟨b2, 2, none⟩ = some (.int .i64 0) := by rw [cell_of_row _ _ 2 _ _ _ D2x.out]; rfl
    have xf0 : w6.frozen? ⟨b2, 0, none⟩ = false := frozen_of_row _ _ _ _ _ D2x.out
    have xf1 : w6.frozen? ⟨b2, 1, none⟩ = false := frozen_of_row _ _ _ _ _ D2x.out
    have xf2 : w6.frozen? ⟨b2, 2, none⟩ = false := frozen_of_row _ _ _ _ _ D2x.out
    go_wp2_with fail
    (try simp only [Exit.inBlock, Exit.then])
    refine bodyPost_ret (results_cell_tmp rfl _ _ b2 32 #[.slice none 0 0, .slice none 0 0, .int .i64 0] (0, 0) _ rfl (set3 D2x.out _ _ _) Tryz.underlying32 rfl HS9.out) rfl ?_
    rw [HR.out, HP.out]
    rw [← HE.out]
    exact paid_none (below_set3 HbX.out (by rw [Eb2.out, EB.out]; omega) _ _ _)
   case pos =>
   have HGo := aside (Pk.great_ok ns I K kc want wr HIs.out hpq)
   have HPq := aside hpq
   have HFw := aside (theP_few HNl.out hpq)
   have HLf := aside (left_in HNl.out hpq)
   clear hpq
   go_wp2_with fail
   refine HGo.out.mono ?_
   rintro e w6 ⟨A6, c6, p, o, rfl, hp, hpe, hpo, hps, hb6⟩
   have hpt := great_is hpe hpo hps
   have HPt := aside hpt
   rw [← hpt] at HFw
   have HOne : Hid p.Nodup := aside (by rw [hpt]; exact theP_one)
   have HPl6 := aside hp
   have hpr : ∀ X N, Below w5.heap.size w5 wr → Below wr.heap.size wr w6 → X ≤ w5.heap.size → Below X N w5 → Below X N w6 := fun X N h1 h2 h3 h4 => (h4.trans (h1.mono h3)).trans (h2.mono (Nat.le_trans h3 h1.size))
   have B56 : Hid (Below w5.heap.size w5 w6) := aside (hpr _ _ HB.out hb6 (Nat.le_refl _) (Below.refl _ _))
   have hz56 := B56.out.size
   have HIs6 : Hid (ISl w6 w6.heap.size I K ns) := aside ((Sl.below HIs.out hb6).more hb6.size)
   have HCm6 : Hid (CSl w6 w6.heap.size A2 K ms) := aside (HCm.out.step B56.out)
   have HLs6 : Hid (Sl w6 w6.heap.size 1 A1 N (ls.map lkV)) := aside ((Sl.below HLs5.out B56.out).more hz56)
   have HLr6 : Hid (∀ l ∈ ls, RSl w6 w6.heap.size l.1 2 l.2) := aside (fun l hl => (HLr5.out l hl).step B56.out)
   have HBw6 : Hid (Below w.heap.size w w6) := aside (HBw5.out.trans (B56.out.mono HBw5.out.size))
   have HB6 : Hid (Below w1.heap.size w1 w6) := aside (HB5.out.trans (B56.out.mono HB5.out.size))
   have HCo6 : Hid (CSl w6 w6.heap.size A m cs) := aside (H.out.step HBw6.out)
   have HO6 : Hid (RSl w6 w6.heap.size oA on rs) := aside ((HO.out.below HBw6.out).more HBw6.out.size)
   have HG6 : Hid (RoundsAt w6) := aside (HG.out.below HBw6.out)
   have HX6 : Hid (∀ W : World, Below w6.heap.size w6 W → BlkY W B0 23 d ∧ W.heap[b1]? = some (.cells #[.int .i64 amt, .slice oA on oc] 27 (0, 0)) ∧ W.heap[b2]? = some (.cells #[.slice none 0 0, .slice none 0 0, .int .i64 0] 32 (0, 0))) := aside (fun W hW => HX.out W (HB6.out.trans (hW.mono HB6.out.size)))
   clear hp hpe hpo hps hpt hpr hb6 HGo HIs HB HBw HB5 HBw5 HLs5 HLr5 HCm B56 hz56 HX HB6 H HO HG B1
   go_upto_region 19 with fail
   obtain ⟨hon, hrs⟩ := lock_short2 HO6.out HLq.out
   have hlow : b2 < w6.heap.size := (Array.getElem?_eq_some_iff.1 (HX6.out w6 (Below.refl _ _)).2.2).1
   go_cut [21] from 80 to 87 (fun v21 wx => ∃ (tb ob : Nat) (A3 : Option Addr) (c3 : Nat) (rs3 : List ROp), v21 = .pointer (some ⟨tb, 0, none⟩) ∧ Hid (TxNew w6 wx b2 tb ob amt A3 on c3 rs3) ∧ Hid (rs3.map ROp.pl = rs.map ROp.pl))
   case first =>
    refine wp_region_held_drew (S := (fun w' => Below w6.heap.size w6 w')) (by kernel_rfl) (below_drawn (Below.refl _ _) 1) (fun hS => ?_)
    refine tkH (i := 0) (v := ?_) rfl (by kernel_rfl) (fun _ _ _ h => h) (Or.inl ⟨by rfl, ?_⟩) hS ?_
    rotate_left
    ·(intro W hSw; (try dsimp only at hSw); go_simp; try with_reducible rfl)
    (repeat (first | simp only [q1] | simp only [q2] | simp only [q3] | simp only [Act.put] | simp only [q4] | simp only [q5] | simp only [q6]))
    refine tkH (i := 1) (v := ?_) rfl (by kernel_rfl) (fun _ _ _ h => h) (Or.inl ⟨by rfl, ?_⟩) hS ?_
    rotate_left
    ·(intro W hSw; (try dsimp only at hSw); have hx9 : W.cell? ⟨b1, 0, none⟩ = some (.int .i64 amt) := (by rw [cell_of_row _ b1 0 _ _ _ (HX6.out W hSw).2.1]; rfl); go_simp; try with_reducible rfl)
    (repeat (first | simp only [q1] | simp only [q2] | simp only [q3] | simp only [Act.put] | simp only [q4] | simp only [q5] | simp only [q6]))
    refine tkH (i := 2) (v := ?_) rfl (by kernel_rfl) (fun _ _ _ h => h) (Or.inl ⟨by rfl, ?_⟩) hS ?_
    rotate_left
    ·(intro W hSw; (try dsimp only at hSw); go_simp; try with_reducible rfl)
    (repeat (first | simp only [q1] | simp only [q2] | simp only [q3] | simp only [Act.put] | simp only [q4] | simp only [q5] | simp only [q6]))
    refine tkH (i := 3) (v := ?_) rfl (by kernel_rfl) (fun _ _ _ h => h) (Or.inl ⟨by rfl, ?_⟩) hS ?_
    rotate_left
    ·(intro W hSw; (try dsimp only at hSw); have hx9 : W.cell? ⟨b1, 1, none⟩ = some (.slice oA on oc) := (by rw [cell_of_row _ b1 1 _ _ _ (HX6.out W hSw).2.1]; rfl); go_simp; try with_reducible rfl)
    (repeat (first | simp only [q1] | simp only [q2] | simp only [q3] | simp only [Act.put] | simp only [q4] | simp only [q5] | simp only [q6]))
    refine wpAnyH_all (rs := [4, 8]) (by kernel_rfl) (by simp) ?_
    intro m9 hm9
    simp only [List.mem_cons, List.not_mem_nil, or_false] at hm9
    rcases hm9 with rfl | rfl
    ·refine wpOp_of_list rfl ?_
     (repeat (first | simp only [q1] | simp only [q2] | simp only [q3]))
     have HSV := aside hS
     go_wp2_with (first
      | (go_at_call 32; refine (wcopied_any rs oA on oc _ ((HO6.out.below HSV.out).more HSV.out.size) hon hrs).mono ?_; rintro e w7 ⟨A3, c3, rs3, rfl, hdep, hpl, hb9⟩; have HDep := aside hdep; have HPl := aside hpl; have HB7 := aside hb9; have HS7 : Hid (Below w6.heap.size w6 w7) := aside (HSV.out.trans (hb9.mono HSV.out.size)); clear hdep hpl hb9)
      | fail)
     change _ ∧ _
     refine ⟨HS7.out, ?_⟩
     (try dsimp only)
     (repeat (first | simp only [q1] | simp only [q2] | simp only [q3] | simp only [Act.put] | simp only [q4] | simp only [q5] | simp only [q6]))
     refine tkH (i := 5) (v := ?_) rfl (by kernel_rfl) (fun _ _ _ h => h) (Or.inl ⟨by rfl, ?_⟩) HS7.out ?_
     rotate_left
     ·(intro W hSw; (try dsimp only at hSw); go_simp; try with_reducible rfl)
     (repeat (first | simp only [q1] | simp only [q2] | simp only [q3] | simp only [Act.put] | simp only [q4] | simp only [q5] | simp only [q6]))
     refine wpAnyH_all (rs := [6, 8]) (by kernel_rfl) (by simp) ?_
     intro m9 hm9
     simp only [List.mem_cons, List.not_mem_nil, or_false] at hm9
     rcases hm9 with rfl | rfl
     ·refine wpOp_of_list rfl ?_
      (repeat (first | simp only [q1] | simp only [q2] | simp only [q3]))
      go_wp2_with fail
      change _ ∧ _
      refine ⟨HS7.out.alloc HS7.out.size _, ?_⟩
      (try dsimp only)
      (repeat (first | simp only [q1] | simp only [q2] | simp only [q3] | simp only [Act.put] | simp only [q4] | simp only [q5] | simp only [q6]))
      refine tkH (i := 7) (v := ?_) rfl (by kernel_rfl) (fun _ _ _ h => h) (Or.inl ⟨by rfl, ?_⟩) (HS7.out.alloc HS7.out.size _) ?_
      rotate_left
      ·(intro W hSw; (try dsimp only at hSw); go_simp; try with_reducible rfl)
      (repeat (first | simp only [q1] | simp only [q2] | simp only [q3] | simp only [Act.put] | simp only [q4] | simp only [q5] | simp only [q6]))
      refine oneL (i := 8) (by kernel_rfl) rfl ?_
      (repeat (first | simp only [q1] | simp only [q2] | simp only [q3]))
      go_wp2_with fail
      change _ ∧ _
      refine ⟨(HS7.out.alloc HS7.out.size _).alloc (by have := HS7.out.size; simp; omega) _, ?_⟩
      (try dsimp only)
      (repeat (first | simp only [q1] | simp only [q2] | simp only [q3] | simp only [Act.put] | simp only [q4] | simp only [q5] | simp only [q6]))
      refine oneH (i := 9) (by kernel_rfl) ?_
      have HTn := aside (TxNew.a (b2 := b2) hlow (amt := amt) (c := c3) HDep.out hS HB7.out)
      refine wpOp_of_list rfl ?_
      (repeat (first | simp only [q1] | simp only [q2] | simp only [q3]))
      refine wpList_store_row rfl 32 (.tmp 21) (.tmp 87) rfl (w7.heap.size + 1) #[.slice none 0 0, .slice (some ⟨w7.heap.size, 0, none⟩) 1 1, .int .i64 0] rfl rfl 32 #[.slice none 0 0, .slice none 0 0, .int .i64 0] (TxNew.a_at w7) (by kernel_rfl) rfl (by simp [Value.oneCell']) ?_
      change _ ∧ _
      refine ⟨HTn.out.below, ?_⟩
      (try dsimp only)
      (repeat (first | simp only [q1] | simp only [q2] | simp only [q3] | simp only [Act.put] | simp only [q4] | simp only [q5] | simp only [q6]))
      refine wpAnyH_done (by kernel_rfl) ?_ _
      go_wp2_with fail
      go_meet
      exact ⟨(w7.heap.size + 1), w7.heap.size, A3, c3, rs3, rfl, HTn, HPl⟩
     ·refine wpOp_of_list rfl ?_
      (repeat (first | simp only [q1] | simp only [q2] | simp only [q3]))
      go_wp2_with fail
      change _ ∧ _
      refine ⟨HS7.out.alloc HS7.out.size _, ?_⟩
      (try dsimp only)
      (repeat (first | simp only [q1] | simp only [q2] | simp only [q3] | simp only [Act.put] | simp only [q4] | simp only [q5] | simp only [q6]))
      refine oneL (i := 6) (by kernel_rfl) rfl ?_
      (repeat (first | simp only [q1] | simp only [q2] | simp only [q3]))
      go_wp2_with fail
      change _ ∧ _
      refine ⟨(HS7.out.alloc HS7.out.size _).alloc (by have := HS7.out.size; simp; omega) _, ?_⟩
      (try dsimp only)
      (repeat (first | simp only [q1] | simp only [q2] | simp only [q3] | simp only [Act.put] | simp only [q4] | simp only [q5] | simp only [q6]))
      refine tkH (i := 7) (v := ?_) rfl (by kernel_rfl) (fun _ _ _ h => h) (Or.inl ⟨by rfl, ?_⟩) ((HS7.out.alloc HS7.out.size _).alloc (by have := HS7.out.size; simp; omega) _) ?_
      rotate_left
      ·(intro W hSw; (try dsimp only at hSw); go_simp; try with_reducible rfl)
      (repeat (first | simp only [q1] | simp only [q2] | simp only [q3] | simp only [Act.put] | simp only [q4] | simp only [q5] | simp only [q6]))
      refine oneH (i := 9) (by kernel_rfl) ?_
      have HTn := aside (TxNew.b (b2 := b2) hlow (amt := amt) (c := c3) HDep.out hS HB7.out)
      refine wpOp_of_list rfl ?_
      (repeat (first | simp only [q1] | simp only [q2] | simp only [q3]))
      refine wpList_store_row rfl 32 (.tmp 21) (.tmp 87) rfl w7.heap.size #[.slice none 0 0, .slice (some ⟨(w7.heap.size + 1), 0, none⟩) 1 1, .int .i64 0] rfl rfl 32 #[.slice none 0 0, .slice none 0 0, .int .i64 0] (TxNew.b_at w7) (by kernel_rfl) rfl (by simp [Value.oneCell']) ?_
      change _ ∧ _
      refine ⟨HTn.out.below, ?_⟩
      (try dsimp only)
      (repeat (first | simp only [q1] | simp only [q2] | simp only [q3] | simp only [Act.put] | simp only [q4] | simp only [q5] | simp only [q6]))
      refine wpAnyH_done (by kernel_rfl) ?_ _
      go_wp2_with fail
      go_meet
      exact ⟨w7.heap.size, (w7.heap.size + 1), A3, c3, rs3, rfl, HTn, HPl⟩
    ·refine wpOp_of_list rfl ?_
     (repeat (first | simp only [q1] | simp only [q2] | simp only [q3]))
     go_wp2_with fail
     have HSV : Hid (Below w6.heap.size w6 ((w6.drewN 1).alloc (.cells #[.slice none 0 0, .slice none 0 0, .int .i64 0] 32))) := aside (hS.alloc (by simp) _)
     change _ ∧ _
     refine ⟨HSV.out, ?_⟩
     (try dsimp only)
     (repeat (first | simp only [q1] | simp only [q2] | simp only [q3] | simp only [Act.put] | simp only [q4] | simp only [q5] | simp only [q6]))
     refine oneL (i := 4) (by kernel_rfl) rfl ?_
     (repeat (first | simp only [q1] | simp only [q2] | simp only [q3]))
     go_wp2_with (first
      | (go_at_call 32; refine (wcopied_any rs oA on oc _ ((HO6.out.below HSV.out).more HSV.out.size) hon hrs).mono ?_; rintro e w7 ⟨A3, c3, rs3, rfl, hdep, hpl, hb9⟩; have HDep := aside hdep; have HPl := aside hpl; have HB7 := aside hb9; have HS7 : Hid (Below w6.heap.size w6 w7) := aside (HSV.out.trans (hb9.mono HSV.out.size)); clear hdep hpl hb9)
      | fail)
     change _ ∧ _
     refine ⟨HS7.out, ?_⟩
     (try dsimp only)
     (repeat (first | simp only [q1] | simp only [q2] | simp only [q3] | simp only [Act.put] | simp only [q4] | simp only [q5] | simp only [q6]))
     refine tkH (i := 5) (v := ?_) rfl (by kernel_rfl) (fun _ _ _ h => h) (Or.inl ⟨by rfl, ?_⟩) HS7.out ?_
     rotate_left
     ·(intro W hSw; (try dsimp only at hSw); go_simp; try with_reducible rfl)
     (repeat (first | simp only [q1] | simp only [q2] | simp only [q3] | simp only [Act.put] | simp only [q4] | simp only [q5] | simp only [q6]))
     refine oneL (i := 6) (by kernel_rfl) rfl ?_
     (repeat (first | simp only [q1] | simp only [q2] | simp only [q3]))
     go_wp2_with fail
     change _ ∧ _
     refine ⟨HS7.out.alloc HS7.out.size _, ?_⟩
     (try dsimp only)
     (repeat (first | simp only [q1] | simp only [q2] | simp only [q3] | simp only [Act.put] | simp only [q4] | simp only [q5] | simp only [q6]))
     refine tkH (i := 7) (v := ?_) rfl (by kernel_rfl) (fun _ _ _ h => h) (Or.inl ⟨by rfl, ?_⟩) (HS7.out.alloc HS7.out.size _) ?_
     rotate_left
     ·(intro W hSw; (try dsimp only at hSw); go_simp; try with_reducible rfl)
     (repeat (first | simp only [q1] | simp only [q2] | simp only [q3] | simp only [Act.put] | simp only [q4] | simp only [q5] | simp only [q6]))
     refine oneH (i := 9) (by kernel_rfl) ?_
     have HTn := aside (TxNew.c (W0 := w6.drewN 1) (b2 := b2) hlow (amt := amt) (c := c3) HDep.out hS HB7.out)
     refine wpOp_of_list rfl ?_
     (repeat (first | simp only [q1] | simp only [q2] | simp only [q3]))
     refine wpList_store_row rfl 32 (.tmp 21) (.tmp 87) rfl w6.heap.size #[.slice none 0 0, .slice (some ⟨w7.heap.size, 0, none⟩) 1 1, .int .i64 0] rfl rfl 32 #[.slice none 0 0, .slice none 0 0, .int .i64 0] (TxNew.c_at (W0 := w6.drewN 1) HB7.out) (by kernel_rfl) rfl (by simp [Value.oneCell']) ?_
     change _ ∧ _
     refine ⟨HTn.out.below, ?_⟩
     (try dsimp only)
     (repeat (first | simp only [q1] | simp only [q2] | simp only [q3] | simp only [Act.put] | simp only [q4] | simp only [q5] | simp only [q6]))
     refine wpAnyH_done (by kernel_rfl) ?_ _
     go_wp2_with fail
     go_meet
     exact ⟨w6.heap.size, w7.heap.size, A3, c3, rs3, rfl, HTn, HPl⟩
   case rest =>
    obtain ⟨tb, ob, A3, c3, rs3, rfl, HTn, HPl3⟩ := hcut
    obtain ⟨w8, hw8⟩ : ∃ w8, w8 = wc := ⟨_, rfl⟩
    subst hw8
    have HB8 : Hid (Below w6.heap.size w6 w8) := aside HTn.out.below
    have hwt := Pk.pickQ_zero HPq.out
    have hw0 : 0 ≤ want := hwt.2.2.1
    have hw1 : want ≤ 1125899906842624 := hwt.2.2.2.1
    clear hwt
    have hneg : IntKind.i64.wrap (-want) = -want := by rw [IntKind.wrap_i64]; omega
    have htb6 : w6.heap.size ≤ tb := HTn.out.lo.1
    have htb8 : tb < w8.heap.size := (Array.getElem?_eq_some_iff.1 HTn.out.tx).1
    have HIn0 : Hid (InsAt w6 w8 w8 tb none 0 0 (.slice (some ⟨ob, 0, none⟩) 1 1) (insP ms (p.take 0))) := aside (InsAt.start HTn.out.tx HTn.out.below)
    have h0 : -want = Pk.sumG (Pk.atZ ns) (p.take 0) - want := by rw [List.take_zero, Pk.sumG_nil]; omega
    have H0 := aside h0
    have hpl30 : p.length ≤ 30 := Nat.le_trans HFw.out.len hK30
    clear h0 hon hrs
    go_wp2_with fail
    clear hneg
    go_loopw [22, 92] (fun v22 v92 wr => ∃ (k : Nat) (J : Option Addr) (jc : Nat), k ≤ p.length ∧ v92 = .int .i64 k ∧ v22 = .int .i64 (Pk.sumG (Pk.atZ ns) (p.take k) - want) ∧ Hid (InsAt w6 w8 wr tb J k jc (.slice (some ⟨ob, 0, none⟩) 1 1) (insP ms (p.take k)))) (fun _ v92 _ => p.length - (Go.RowKit.intOf v92).toNat)
    case atStart => exact ⟨0, none, 0, Nat.zero_le _, rfl, congrArg (Value.int .i64) H0.out, HIn0⟩
    case round =>
     clear HIn0 H0
     obtain ⟨k, J, jc, hk, rfl, rfl, HIn⟩ := hrel
     by_cases hkn : k < p.length
     ·have k0 : (k : Int) < (p.length : Int) := by omega
      obtain ⟨z, hz⟩ : ∃ z, z = nth p k := ⟨_, rfl⟩
      have hok := HFw.out.ok _ (nth_mem hkn)
      rw [← hz] at hok
      have hzi : z = ((z.toNat : Nat) : Int) := by have := hok.1; omega
      obtain ⟨i, hi⟩ : ∃ i, i = z.toNat := ⟨_, rfl⟩
      rw [← hi] at hzi
      have hiK : i < K := by have := hok.2; omega
      have HB := aside HIn.out.bl
      have hwz := HB.out.size
      obtain ⟨pb, po, hAp, hpb, hpc6⟩ := ISl.at_ HPl6.out hkn
      have hpc := (HB.out.cell (p := ⟨pb, po + k, none⟩) hpb).trans hpc6
      obtain ⟨nb, no, hAn, hnb, hnc⟩ := ISl.at_ HIs6.out hiK
      obtain ⟨mb, mo, hAm, hmb, hrg⟩ := HCm6.out.at_ hiK
      have hsm : Pk.sumG (Pk.atZ ns) (p.take (k + 1)) = Pk.sumG (Pk.atZ ns) (p.take k) + nth ns i := by
       rw [Pk.sumG_next hkn]
       show _ + nth ns (nth p k).toNat = _
       rw [← hz, ← hi]
      have hsb := Pk.sumG_take (g := Pk.atZ ns) HFw.out.pos (k + 1)
      have hsb0 := Pk.sumG_take (g := Pk.atZ ns) HFw.out.pos k
      have hmo := HFw.out.most
      have hnx : insP ms (p.take (k + 1)) = insP ms (p.take k) ++ [inOf (ms.getD i noC)] := by
       rw [insP_next hkn]
       show _ ++ [inOf (ms.getD (nth p k).toNat noC)] = _
       rw [← hz, ← hi]
      rw [← hz, hzi] at hpc
      generalize ms.getD i noC = r at *
      generalize nth ns i = ni at *
      obtain ⟨sk, hsk⟩ : ∃ sk, sk = Pk.sumG (Pk.atZ ns) (p.take k) := ⟨_, rfl⟩
      rw [← hsk] at hsm hsb0 ⊢
      have HSk := aside hsk
      have hwr : IntKind.i64.wrap (sk - want + ni) = sk + ni - want := by rw [hsm] at hsb; rw [IntKind.wrap_i64]; omega
      have HSm := aside hsm
      have HNx := aside hnx
      have HRg := aside (range_place hrg)
      have i0 : (0 : Int) ≤ (i : Int) := by omega
      have i1 : (i : Int) < (K : Int) := by omega
      have x0 : wr.cell? ⟨tb, 0, none⟩ = some (.slice J k jc) := HIn.out.cell.1
      have HNc := aside hnc
      subst hAp hAn hAm
      clear hpc6 hnc hrg hsm hsb hsb0 hmo hnx hz hi hzi hok hsk
      go_upto_region 24 with fail
      have HInD : Hid (InsAt w6 w8 (wr.drewN 1) tb J k jc (.slice (some ⟨ob, 0, none⟩) 1 1) (insP ms (p.take k))) := aside (HIn.out.call (below_drawn (Below.refl _ _) 1))
      have x0d : (wr.drewN 1).cell? ⟨tb, 0, none⟩ = some (.slice J k jc) := x0
      clear hpc
      have HE1 : Hid ((encIn (inOf r)).toArray.toList.all (fun u => u.oneCell') = true) := aside (List.all_eq_true.2 (encIn_one (inOf r)))
      have HE2 : Hid ((encIn (inOf r)).toArray.size = 34) := aside (by simp only [List.size_toArray, encIn_len])
      have hz8 : w8.heap.size ≤ (wr.drewN 1).heap.size := HIn.out.kp.2
      have hmb6 : mb < w6.heap.size := hmb
      refine wp_region_held_drew (S := (fun w' => Below w6.heap.size w6 w')) (by kernel_rfl) (below_drawn HB.out 1) (fun hS => ?_)
      refine tkH (i := 0) (v := ?_) rfl (by kernel_rfl) (fun _ _ _ h => h) (Or.inl ⟨by rfl, ?_⟩) hS ?_
      rotate_left
      ·(intro W hSw; (try dsimp only at hSw); go_simp; try with_reducible rfl)
      (repeat (first | simp only [q1] | simp only [q2] | simp only [q3] | simp only [Act.put] | simp only [q4] | simp only [q5] | simp only [q6]))
      refine tkH (i := 2) (v := ?_) rfl (by kernel_rfl) (fun _ _ _ h => h) (Or.inl ⟨by rfl, ?_⟩) hS ?_
      rotate_left
      ·(intro W hSw; (try dsimp only at hSw); go_simp; try with_reducible rfl)
      (repeat (first | simp only [q1] | simp only [q2] | simp only [q3] | simp only [Act.put] | simp only [q4] | simp only [q5] | simp only [q6]))
      refine tkH (i := 3) (v := ?_) rfl (by kernel_rfl) (fun _ _ _ h => h) (Or.inl ⟨by rfl, ?_⟩) hS ?_
      rotate_left
      ·(intro W hSw; (try dsimp only at hSw); go_simp; try with_reducible rfl)
      (repeat (first | simp only [q1] | simp only [q2] | simp only [q3] | simp only [Act.put] | simp only [q4] | simp only [q5] | simp only [q6]))
      refine tkH (i := 4) (v := ?_) rfl (by kernel_rfl) (fun _ _ _ h => h) (Or.inl ⟨by rfl, ?_⟩) hS ?_
      rotate_left
      ·(intro W hSw; (try dsimp only at hSw); go_simp; try with_reducible rfl)
      (repeat (first | simp only [q1] | simp only [q2] | simp only [q3] | simp only [Act.put] | simp only [q4] | simp only [q5] | simp only [q6]))
      refine tkH (i := 5) (v := ?_) rfl (by kernel_rfl) (fun _ _ _ h => h) (Or.inl ⟨by rfl, ?_⟩) hS ?_
      rotate_left
      ·(intro W hSw; (try dsimp only at hSw); go_simp; try with_reducible rfl)
      (repeat (first | simp only [q1] | simp only [q2] | simp only [q3] | simp only [Act.put] | simp only [q4] | simp only [q5] | simp only [q6]))
      refine tkH (i := 6) (v := _) rfl (by kernel_rfl) (fun _ _ _ h => h) (yieldsIf_load_mid (by rfl) _ _ rfl mb (mo + i * 36) rfl (plC r.tx r.at_) _ (fun W hW => range_below HRg.out hW hmb) Tryz.underlying55 rfl (by rw [plC_len]; exact placeInfo)) hS ?_
      (repeat (first | simp only [q1] | simp only [q2] | simp only [q3] | simp only [Act.put] | simp only [q4] | simp only [q5] | simp only [q6]))
      refine tkH (i := 7) (v := _) rfl (by kernel_rfl) (fun _ _ _ h => h) (yields_in (by rfl) _ rfl r rfl) hS ?_
      (repeat (first | simp only [q1] | simp only [q2] | simp only [q3] | simp only [Act.put] | simp only [q4] | simp only [q5] | simp only [q6]))
      refine wpAnyH_all (rs := [1, 8]) (by kernel_rfl) (by simp) ?_
      intro m9 hm9
      simp only [List.mem_cons, List.not_mem_nil, or_false] at hm9
      rcases hm9 with rfl | rfl
      ·refine wpOp_of_list rfl ?_
       (repeat (first | simp only [q1] | simp only [q2] | simp only [q3]))
       go_wp2_with fail
       change _ ∧ _
       refine ⟨hS, ?_⟩
       (try dsimp only)
       (repeat (first | simp only [q1] | simp only [q2] | simp only [q3] | simp only [Act.put] | simp only [q4] | simp only [q5] | simp only [q6]))
       refine oneL (i := 8) (by kernel_rfl) rfl ?_
       (repeat (first | simp only [q1] | simp only [q2] | simp only [q3]))
       go_wp2_with (first
        | (refine wpList_in rfl (.tmp 103) rfl (encIn (inOf r)) rfl (encIn_len _) ?_)
        | fail)
       change _ ∧ _
       refine ⟨hS.alloc (HB.out.size) _, ?_⟩
       (try dsimp only)
       (repeat (first | simp only [q1] | simp only [q2] | simp only [q3] | simp only [Act.put] | simp only [q4] | simp only [q5] | simp only [q6]))
       refine oneL (i := 9) (by kernel_rfl) rfl ?_
       (repeat (first | simp only [q1] | simp only [q2] | simp only [q3]))
       go_wp2_with (first
        | (at_builtin; refine wpList_push rfl (.tmp 97) (.tmp 104) 29 rfl w8.heap.size _ 34 64 Tryz.underlying29 infoIn (by kernel_rfl) (by decide) (.slice J k jc) k _ rfl rfl HE2.out HE1.out HInD.out.row (by omega) (by unfold maxLen; omega) hz8 ?_; intro A9 c9 w9 hc9 hc9' hown9 hb9 hz9 hg9)
        | fail)
       have HOw9 := aside hown9
       have HB9 := aside hb9
       have HT9 := aside ((hb9.block tb htb8).trans HInD.out.tx)
       have HS9 : Hid (Below w6.heap.size w6 w9) := aside (HInD.out.bl.trans (hb9.mono HB8.out.size))
       clear hown9 hb9 hg9
       change _ ∧ _
       refine ⟨HS9.out, ?_⟩
       (try dsimp only)
       (repeat (first | simp only [q1] | simp only [q2] | simp only [q3] | simp only [Act.put] | simp only [q4] | simp only [q5] | simp only [q6]))
       refine tkH (i := 10) (v := ?_) rfl (by kernel_rfl) (fun _ _ _ h => h) (Or.inl ⟨by rfl, ?_⟩) HS9.out ?_
       rotate_left
       ·(intro W hSw; (try dsimp only at hSw); go_simp; try with_reducible rfl)
       (repeat (first | simp only [q1] | simp only [q2] | simp only [q3] | simp only [Act.put] | simp only [q4] | simp only [q5] | simp only [q6]))
       refine oneL (i := 11) (by kernel_rfl) rfl ?_
       (repeat (first | simp only [q1] | simp only [q2] | simp only [q3]))
       have z0 : w9.cell? ⟨tb, 0, none⟩ = some (.slice J k jc) := by rw [cell_of_row _ _ 0 _ _ _ HT9.out]; rfl
       have zf : w9.frozen? ⟨tb, 0, none⟩ = false := frozen_of_row _ _ _ _ _ HT9.out
       go_wp2_with fail
       have HIn9 : Hid (InsAt w6 w8 (w9.setCell ⟨tb, 0, none⟩ (.slice A9 (k + 1) c9)) tb A9 (k + 1) c9 (.slice (some ⟨ob, 0, none⟩) 1 1) (insP ms (p.take (k + 1)))) := aside (by rw [HNx.out]; exact HInD.out.push htb8 htb6 HOw9.out HB9.out)
       change _ ∧ _
       refine ⟨HIn9.out.bl, ?_⟩
       (try dsimp only)
       (repeat (first | simp only [q1] | simp only [q2] | simp only [q3] | simp only [Act.put] | simp only [q4] | simp only [q5] | simp only [q6]))
       refine wpAnyH_done (by kernel_rfl) ?_ _
       go_upto_region 25 with fail
       change Code.wp _ _ _ _ (w9.setCell ⟨tb, 0, none⟩ (.slice A9 (k + 1) c9))
       generalize (w9.setCell ⟨tb, 0, none⟩ (.slice A9 (k + 1) c9)) = wz at HIn9 ⊢
       have hnc : wz.cell? ⟨nb, no + i, none⟩ = some (.int .i64 ni) := by
        exact (HIn9.out.bl.cell (p := ⟨nb, no + i, none⟩) hnb).trans HNc.out
       clear HT9 HS9 HOw9 HB9 z0 zf HIn HInD x0 x0d
       go_wp2
       exact ⟨⟨k + 1, A9, c9, by omega, by go_num, by rw [HSm.out], HIn9⟩, by simp [Go.RowKit.intOf]; omega⟩
      ·refine wpOp_of_list rfl ?_
       (repeat (first | simp only [q1] | simp only [q2] | simp only [q3]))
       go_wp2_with (first
        | (refine wpList_in rfl (.tmp 103) rfl (encIn (inOf r)) rfl (encIn_len _) ?_)
        | fail)
       change _ ∧ _
       refine ⟨hS.alloc (HB.out.size) _, ?_⟩
       (try dsimp only)
       (repeat (first | simp only [q1] | simp only [q2] | simp only [q3] | simp only [Act.put] | simp only [q4] | simp only [q5] | simp only [q6]))
       have x0e : (wr.alloc (.cells (encIn (inOf r)).toArray 63)).cell? ⟨tb, 0, none⟩ = some (.slice J k jc) := (((Below.refl wr.heap.size _).alloc (Nat.le_refl _) _).cell (p := ⟨tb, 0, none⟩) HInD.out.tb_lt).trans x0
       refine oneL (i := 1) (by kernel_rfl) rfl ?_
       (repeat (first | simp only [q1] | simp only [q2] | simp only [q3]))
       go_wp2_with fail
       change _ ∧ _
       refine ⟨hS.alloc (HB.out.size) _, ?_⟩
       (try dsimp only)
       (repeat (first | simp only [q1] | simp only [q2] | simp only [q3] | simp only [Act.put] | simp only [q4] | simp only [q5] | simp only [q6]))
       clear x0e
       refine oneL (i := 9) (by kernel_rfl) rfl ?_
       (repeat (first | simp only [q1] | simp only [q2] | simp only [q3]))
       go_wp2_with (first
        | (at_builtin; refine wpList_push rfl (.tmp 97) (.tmp 104) 29 rfl w8.heap.size _ 34 64 Tryz.underlying29 infoIn (by kernel_rfl) (by decide) (.slice J k jc) k _ rfl rfl HE2.out HE1.out HInD.out.row (by omega) (by unfold maxLen; omega) hz8 ?_; intro A9 c9 w9 hc9 hc9' hown9 hb9 hz9 hg9)
        | fail)
       have HOw9 := aside hown9
       have HB9 := aside hb9
       have HT9 := aside ((hb9.block tb htb8).trans HInD.out.tx)
       have HS9 : Hid (Below w6.heap.size w6 w9) := aside (HInD.out.bl.trans (hb9.mono HB8.out.size))
       clear hown9 hb9 hg9
       change _ ∧ _
       refine ⟨HS9.out, ?_⟩
       (try dsimp only)
       (repeat (first | simp only [q1] | simp only [q2] | simp only [q3] | simp only [Act.put] | simp only [q4] | simp only [q5] | simp only [q6]))
       refine tkH (i := 10) (v := ?_) rfl (by kernel_rfl) (fun _ _ _ h => h) (Or.inl ⟨by rfl, ?_⟩) HS9.out ?_
       rotate_left
       ·(intro W hSw; (try dsimp only at hSw); go_simp; try with_reducible rfl)
       (repeat (first | simp only [q1] | simp only [q2] | simp only [q3] | simp only [Act.put] | simp only [q4] | simp only [q5] | simp only [q6]))
       refine oneL (i := 11) (by kernel_rfl) rfl ?_
       (repeat (first | simp only [q1] | simp only [q2] | simp only [q3]))
       have z0 : w9.cell? ⟨tb, 0, none⟩ = some (.slice J k jc) := by rw [cell_of_row _ _ 0 _ _ _ HT9.out]; rfl
       have zf : w9.frozen? ⟨tb, 0, none⟩ = false := frozen_of_row _ _ _ _ _ HT9.out
       go_wp2_with fail
       have HIn9 : Hid (InsAt w6 w8 (w9.setCell ⟨tb, 0, none⟩ (.slice A9 (k + 1) c9)) tb A9 (k + 1) c9 (.slice (some ⟨ob, 0, none⟩) 1 1) (insP ms (p.take (k + 1)))) := aside (by rw [HNx.out]; exact HInD.out.push htb8 htb6 HOw9.out HB9.out)
       change _ ∧ _
       refine ⟨HIn9.out.bl, ?_⟩
       (try dsimp only)
       (repeat (first | simp only [q1] | simp only [q2] | simp only [q3] | simp only [Act.put] | simp only [q4] | simp only [q5] | simp only [q6]))
       refine wpAnyH_done (by kernel_rfl) ?_ _
       go_upto_region 25 with fail
       change Code.wp _ _ _ _ (w9.setCell ⟨tb, 0, none⟩ (.slice A9 (k + 1) c9))
       generalize (w9.setCell ⟨tb, 0, none⟩ (.slice A9 (k + 1) c9)) = wz at HIn9 ⊢
       have hnc : wz.cell? ⟨nb, no + i, none⟩ = some (.int .i64 ni) := by
        exact (HIn9.out.bl.cell (p := ⟨nb, no + i, none⟩) hnb).trans HNc.out
       clear HT9 HS9 HOw9 HB9 z0 zf HIn HInD x0 x0d
       go_wp2
       exact ⟨⟨k + 1, A9, c9, by omega, by go_num, by rw [HSm.out], HIn9⟩, by simp [Go.RowKit.intOf]; omega⟩
     ·obtain rfl : k = p.length := by omega
      have i0 : ((p.length : Int) < (p.length : Int)) = False := by simp
      have HIn2 : Hid (InsAt w6 w8 wr tb J p.length jc (.slice (some ⟨ob, 0, none⟩) 1 1) (insP ms p)) := aside (by
       have h9 := HIn.out
       rwa [List.take_length] at h9)
      obtain ⟨left, hleft⟩ : ∃ left, left = leftK ns want := ⟨_, rfl⟩
      have HLe := aside hleft
      have hlf : Pk.sumG (Pk.atZ ns) (p.take p.length) - want = left := by rw [List.take_length, hleft, HPt.out]; rfl
      rw [hlf]
      have hlb := HLf.out
      rw [← hleft] at hlb
      clear hlf hleft HIn HLf
      obtain ⟨L, hL⟩ : ∃ L, L = ls.getD (frI cs (ls.map lkP) 0) (none, []) := ⟨_, rfl⟩
      have hlsl : ls.length = N := by have := HLs6.out.len; simpa using this
      have hfr := frI_lt cs (ls.map lkP) 0 (by rw [List.length_map]; omega)
      rw [List.length_map, Nat.zero_add] at hfr
      have hLm : L ∈ ls := by rw [hL]; exact gd_mem _ hfr
      have HLR := aside (HLr6.out L hLm)
      have hLp : L.2.map ROp.pl = (ls.map lkP).getD (frI cs (ls.map lkP) 0) [] := by
       rw [map_getD lkP (none, []) [] hfr, ← hL]
       rfl
      have hLq : lkQ (L.2.map ROp.pl) = 0 := by
       have h9 : L.2.map ROp.pl ∈ ls.map lkP := List.mem_map_of_mem (f := lkP) hLm
       rw [HLp.out] at h9
       obtain ⟨i9, -, h9⟩ := List.mem_map.1 h9
       rw [← h9]
       exact lock_ok d i9
      have HLe2 := aside hL
      have HLp2 := aside hLp
      have HLq2 := aside hLq
      have hLd := (lock_short2 HLR.out hLq).2
      have HO1 : Hid (OutOk ⟨amt, A3, on, c3, rs3⟩) := aside ⟨HMa.out, by show lkQ (rs3.map ROp.pl) = 0; rw [HPl3.out]; exact HLq.out⟩
      clear hL hlsl hfr hLm hLp hLq
      go_upto_if 115 with fail
      go_cut [] from 114 to 126 (fun wx => ∃ (O : Option Addr) (mo mc : Nat) (os : List ROut), Hid (OutsAt w6 w8 wx b2 tb J p.length jc O mo mc (insP ms p) os) ∧ Hid (os.map ROut.pl = outK amt (rs.map ROp.pl) left (L.2.map ROp.pl)) ∧ Hid (0 < mo ∧ mo ≤ 4) ∧ Hid (∀ o ∈ os, OutOk o))
      case first =>
       by_cases hpos : 0 < left
       case neg =>
        have hpos2 : left ≤ 0 := by omega
        have hposb : decide (0 < left) = false := decide_eq_false hpos
        have HOu : Hid (OutsAt w6 w8 wr b2 tb J p.length jc (some ⟨ob, 0, none⟩) 1 1 (insP ms p) [⟨amt, A3, on, c3, rs3⟩]) := aside (OutsAt.one HTn.out HIn2.out)
        have HPo : Hid (([⟨amt, A3, on, c3, rs3⟩] : List ROut).map ROut.pl = outK amt (rs.map ROp.pl) left (L.2.map ROp.pl)) := aside (by
         unfold outK
         rw [if_neg hpos, ← HPl3.out]
         rfl)
        have HOk : Hid (∀ o ∈ ([⟨amt, A3, on, c3, rs3⟩] : List ROut), OutOk o) := aside (fun o ho => by obtain rfl := List.mem_singleton.1 ho; exact HO1.out)
        go_wp2_with fail
        go_meet
        exact ⟨_, 1, 1, _, HOu, HPo, aside ⟨by omega, by omega⟩, HOk⟩
       case pos =>
        go_upto_region 28 with fail
        have HB := aside HIn2.out.bl
        have hwz := HB.out.size
        have hobr := heap_kp HIn2.out.kp HTn.out.out HTn.out.lo.2.2
        have hobl := (Array.getElem?_eq_some_iff.1 hobr).1
        have HOb := aside hobr
        have x1d : wr.cell? ⟨tb, 1, none⟩ = some (.slice (some ⟨ob, 0, none⟩) 1 1) := HIn2.out.cell.2.1
        have htl := HIn2.out.tb_lt
        have Hwr : Hid (Below wr.heap.size wr (wr.drewN 1)) := aside (below_drawn (Below.refl _ _) 1)
        have HFr := aside (fresh_any ls cs A1 A N c1 m c hN0 hN1 (fun r hr => (HCs.out r hr).1) hmm (wr.drewN 1) ((Sl.below HLs6.out (HB.out.trans (Hwr.out.mono hwz))).more hwz) (fun l hl => ((HLr6.out l hl).below (HB.out.trans (Hwr.out.mono hwz))).more hwz) ((HCo6.out.below (HB.out.trans (Hwr.out.mono hwz))).more hwz))
        rw [← HLe2.out] at HFr
        clear hobr
        refine wp_region_held_drew (S := (fun w' => Below w6.heap.size w6 w')) (by kernel_rfl) (below_drawn HB.out 1) (fun hS => ?_)
        refine tkH (i := 0) (v := ?_) rfl (by kernel_rfl) (fun _ _ _ h => h) (Or.inl ⟨by rfl, ?_⟩) hS ?_
        rotate_left
        ·(intro W hSw; (try dsimp only at hSw); go_simp; try with_reducible rfl)
        (repeat (first | simp only [q1] | simp only [q2] | simp only [q3] | simp only [Act.put] | simp only [q4] | simp only [q5] | simp only [q6]))
        refine tkH (i := 2) (v := ?_) rfl (by kernel_rfl) (fun _ _ _ h => h) (Or.inl ⟨by rfl, ?_⟩) hS ?_
        rotate_left
        ·(intro W hSw; (try dsimp only at hSw); go_simp; try with_reducible rfl)
        (repeat (first | simp only [q1] | simp only [q2] | simp only [q3] | simp only [Act.put] | simp only [q4] | simp only [q5] | simp only [q6]))
        refine tkH (i := 3) (v := ?_) rfl (by kernel_rfl) (fun _ _ _ h => h) (Or.inl ⟨by rfl, ?_⟩) hS ?_
        rotate_left
        ·(intro W hSw; (try dsimp only at hSw); go_simp; try with_reducible rfl)
        (repeat (first | simp only [q1] | simp only [q2] | simp only [q3] | simp only [Act.put] | simp only [q4] | simp only [q5] | simp only [q6]))
        refine tkH (i := 4) (v := ?_) rfl (by kernel_rfl) (fun _ _ _ h => h) (Or.inl ⟨by rfl, ?_⟩) hS ?_
        rotate_left
        ·(intro W hSw; (try dsimp only at hSw); go_simp; try with_reducible rfl)
        (repeat (first | simp only [q1] | simp only [q2] | simp only [q3] | simp only [Act.put] | simp only [q4] | simp only [q5] | simp only [q6]))
        refine wpAnyH_all (rs := [1, 5]) (by kernel_rfl) (by simp) ?_
        intro m9 hm9
        simp only [List.mem_cons, List.not_mem_nil, or_false] at hm9
        rcases hm9 with rfl | rfl
        ·refine wpOp_of_list rfl ?_
         (repeat (first | simp only [q1] | simp only [q2] | simp only [q3]))
         go_wp2_with fail
         change _ ∧ _
         refine ⟨hS, ?_⟩
         (try dsimp only)
         (repeat (first | simp only [q1] | simp only [q2] | simp only [q3] | simp only [Act.put] | simp only [q4] | simp only [q5] | simp only [q6]))
         refine oneL (i := 5) (by kernel_rfl) rfl ?_
         (repeat (first | simp only [q1] | simp only [q2] | simp only [q3]))
         go_wp2_with (first
          | (go_at_call 33; refine HFr.out.mono ?_; rintro e wf ⟨rfl, hb9⟩; have HBf : Hid (Below wr.heap.size wr wf) := aside (Hwr.out.trans hb9); have HSf : Hid (Below w6.heap.size w6 wf) := aside (HB.out.trans (HBf.out.mono hwz)); have x1f : wf.cell? ⟨tb, 1, none⟩ = some (.slice (some ⟨ob, 0, none⟩) 1 1) := (HBf.out.cell (p := ⟨tb, 1, none⟩) htl).trans x1d; clear hb9)
          | fail)
         change _ ∧ _
         refine ⟨HSf.out, ?_⟩
         (try dsimp only)
         (repeat (first | simp only [q1] | simp only [q2] | simp only [q3] | simp only [Act.put] | simp only [q4] | simp only [q5] | simp only [q6]))
         refine oneL (i := 6) (by kernel_rfl) rfl ?_
         (repeat (first | simp only [q1] | simp only [q2] | simp only [q3]))
         go_wp2_with (first
          | (go_at_call 32; refine (wcopied_any L.2 L.1 2 2 wf ((HLR.out.below HSf.out).more HSf.out.size) (by omega) hLd).mono ?_; rintro e wg ⟨A5, c5, rs5, rfl, hdep, hpl, hb9⟩; have HDep := aside hdep; have HPl5 := aside hpl; have HBg : Hid (Below wr.heap.size wr wg) := aside (HBf.out.trans (hb9.mono HBf.out.size)); have HSg : Hid (Below w6.heap.size w6 wg) := aside (HB.out.trans (HBg.out.mono hwz)); have x1g : wg.cell? ⟨tb, 1, none⟩ = some (.slice (some ⟨ob, 0, none⟩) 1 1) := (HBg.out.cell (p := ⟨tb, 1, none⟩) htl).trans x1d; clear hdep hpl hb9)
          | fail)
         change _ ∧ _
         refine ⟨HSg.out, ?_⟩
         (try dsimp only)
         (repeat (first | simp only [q1] | simp only [q2] | simp only [q3] | simp only [Act.put] | simp only [q4] | simp only [q5] | simp only [q6]))
         refine tkH (i := 7) (v := ?_) rfl (by kernel_rfl) (fun _ _ _ h => h) (Or.inl ⟨by rfl, ?_⟩) HSg.out ?_
         rotate_left
         ·(intro W hSw; (try dsimp only at hSw); go_simp; try with_reducible rfl)
         (repeat (first | simp only [q1] | simp only [q2] | simp only [q3] | simp only [Act.put] | simp only [q4] | simp only [q5] | simp only [q6]))
         refine oneL (i := 8) (by kernel_rfl) rfl ?_
         (repeat (first | simp only [q1] | simp only [q2] | simp only [q3]))
         go_wp2_with fail
         change _ ∧ _
         refine ⟨HSg.out.alloc HSg.out.size _, ?_⟩
         (try dsimp only)
         (repeat (first | simp only [q1] | simp only [q2] | simp only [q3] | simp only [Act.put] | simp only [q4] | simp only [q5] | simp only [q6]))
         have HOw : Hid (wg.ownsRow w6.heap.size 27 2 (.slice (some ⟨ob, 0, none⟩) 1 1) 1 [.int .i64 amt, .slice A3 on c3]) := aside (own_shut (cur := [.int .i64 amt, .slice A3 on c3]) HTn.out.lo.2.1 ((HBg.out.block ob hobl).trans HOb.out) (Nat.le_refl _) (by unfold maxLen; omega) rfl rfl)
         have hzg := HSg.out.size
         refine oneL (i := 9) (by kernel_rfl) rfl ?_
         (repeat (first | simp only [q1] | simp only [q2] | simp only [q3]))
         go_wp2_with (first
          | (at_builtin; refine wpList_push rfl (.tmp 117) (.tmp 124) 30 rfl w6.heap.size _ 2 32 Tryz.underlying30 infoOut (by kernel_rfl) (by decide) (.slice (some ⟨ob, 0, none⟩) 1 1) 1 _ rfl rfl rfl (by simp [Value.oneCell']) HOw.out (by omega) (by unfold maxLen; omega) hzg ?_; intro O9 c9 w9 hc9 hc9' hown9 hb9 hz9 hg9)
          | fail)
         have HOw9 := aside hown9
         have HS9 : Hid (Below w6.heap.size w6 w9) := aside (HSg.out.trans hb9)
         have HT9 : Hid (w9.heap[tb]? = some (.cells #[.slice J p.length jc, .slice (some ⟨ob, 0, none⟩) 1 1, .int .i64 0] 32 (0, 0))) := aside ((hg9.by_.block tb (Nat.lt_of_lt_of_le htl HBg.out.size) (fun e => HTn.out.lo.2.2 (Option.some.inj (show some ob = some tb from e.symm)))).trans ((HBg.out.block tb htl).trans HIn2.out.tx))
         have HG9 := aside hg9
         clear hown9 hb9 hg9
         change _ ∧ _
         refine ⟨HS9.out, ?_⟩
         (try dsimp only)
         (repeat (first | simp only [q1] | simp only [q2] | simp only [q3] | simp only [Act.put] | simp only [q4] | simp only [q5] | simp only [q6]))
         refine tkH (i := 10) (v := ?_) rfl (by kernel_rfl) (fun _ _ _ h => h) (Or.inl ⟨by rfl, ?_⟩) HS9.out ?_
         rotate_left
         ·(intro W hSw; (try dsimp only at hSw); go_simp; try with_reducible rfl)
         (repeat (first | simp only [q1] | simp only [q2] | simp only [q3] | simp only [Act.put] | simp only [q4] | simp only [q5] | simp only [q6]))
         refine oneL (i := 11) (by kernel_rfl) rfl ?_
         (repeat (first | simp only [q1] | simp only [q2] | simp only [q3]))
         have z0 : w9.cell? ⟨tb, 1, none⟩ = some (.slice (some ⟨ob, 0, none⟩) 1 1) := by rw [cell_of_row _ _ 1 _ _ _ HT9.out]; rfl
         have zf : w9.frozen? ⟨tb, 1, none⟩ = false := frozen_of_row _ _ _ _ _ HT9.out
         go_wp2_with fail
         have HOu : Hid (OutsAt w6 w8 (w9.setCell ⟨tb, 1, none⟩ (.slice O9 2 c9)) b2 tb J p.length jc O9 2 c9 (insP ms p) [⟨amt, A3, on, c3, rs3⟩, ⟨left, A5, 2, c5, rs5⟩]) := aside (OutsAt.two HTn.out HIn2.out HBg.out (fun E hE => HDep.out.sx (fun x hx => by have h1 := hE x hx; have h2 := HBf.out.size; omega)) HOw9.out HG9.out)
         have HPo : Hid (([⟨amt, A3, on, c3, rs3⟩, ⟨left, A5, 2, c5, rs5⟩] : List ROut).map ROut.pl = outK amt (rs.map ROp.pl) left (L.2.map ROp.pl)) := aside (by
          unfold outK
          rw [if_pos hpos, ← HPl3.out, ← HPl5.out]
          rfl)
         have HOk : Hid (∀ o ∈ ([⟨amt, A3, on, c3, rs3⟩, ⟨left, A5, 2, c5, rs5⟩] : List ROut), OutOk o) := aside (fun o ho => by
          simp only [List.mem_cons, List.not_mem_nil, or_false] at ho
          rcases ho with rfl | rfl
          ·exact HO1.out
          ·refine ⟨?_, by show lkQ (rs5.map ROp.pl) = 0; rw [HPl5.out]; exact HLq2.out⟩
           show moneyE left = 0
           unfold moneyE
           rw [if_neg (by omega)])
         change _ ∧ _
         refine ⟨HOu.out.bl, ?_⟩
         (try dsimp only)
         (repeat (first | simp only [q1] | simp only [q2] | simp only [q3] | simp only [Act.put] | simp only [q4] | simp only [q5] | simp only [q6]))
         refine wpAnyH_done (by kernel_rfl) ?_ _
         go_wp2_with fail
         go_meet
         exact ⟨O9, 2, c9, _, HOu, HPo, aside ⟨by omega, by omega⟩, HOk⟩
        ·refine wpOp_of_list rfl ?_
         (repeat (first | simp only [q1] | simp only [q2] | simp only [q3]))
         go_wp2_with (first
          | (go_at_call 33; refine HFr.out.mono ?_; rintro e wf ⟨rfl, hb9⟩; have HBf : Hid (Below wr.heap.size wr wf) := aside (Hwr.out.trans hb9); have HSf : Hid (Below w6.heap.size w6 wf) := aside (HB.out.trans (HBf.out.mono hwz)); have x1f : wf.cell? ⟨tb, 1, none⟩ = some (.slice (some ⟨ob, 0, none⟩) 1 1) := (HBf.out.cell (p := ⟨tb, 1, none⟩) htl).trans x1d; clear hb9)
          | fail)
         change _ ∧ _
         refine ⟨HSf.out, ?_⟩
         (try dsimp only)
         (repeat (first | simp only [q1] | simp only [q2] | simp only [q3] | simp only [Act.put] | simp only [q4] | simp only [q5] | simp only [q6]))
         refine wpAnyH_all (rs := [1, 6]) (by kernel_rfl) (by simp) ?_
         intro m9 hm9
         simp only [List.mem_cons, List.not_mem_nil, or_false] at hm9
         rcases hm9 with rfl | rfl
         ·refine wpOp_of_list rfl ?_
          (repeat (first | simp only [q1] | simp only [q2] | simp only [q3]))
          go_wp2_with fail
          change _ ∧ _
          refine ⟨HSf.out, ?_⟩
          (try dsimp only)
          (repeat (first | simp only [q1] | simp only [q2] | simp only [q3] | simp only [Act.put] | simp only [q4] | simp only [q5] | simp only [q6]))
          refine oneL (i := 6) (by kernel_rfl) rfl ?_
          (repeat (first | simp only [q1] | simp only [q2] | simp only [q3]))
          go_wp2_with (first
           | (go_at_call 32; refine (wcopied_any L.2 L.1 2 2 wf ((HLR.out.below HSf.out).more HSf.out.size) (by omega) hLd).mono ?_; rintro e wg ⟨A5, c5, rs5, rfl, hdep, hpl, hb9⟩; have HDep := aside hdep; have HPl5 := aside hpl; have HBg : Hid (Below wr.heap.size wr wg) := aside (HBf.out.trans (hb9.mono HBf.out.size)); have HSg : Hid (Below w6.heap.size w6 wg) := aside (HB.out.trans (HBg.out.mono hwz)); have x1g : wg.cell? ⟨tb, 1, none⟩ = some (.slice (some ⟨ob, 0, none⟩) 1 1) := (HBg.out.cell (p := ⟨tb, 1, none⟩) htl).trans x1d; clear hdep hpl hb9)
           | fail)
          change _ ∧ _
          refine ⟨HSg.out, ?_⟩
          (try dsimp only)
          (repeat (first | simp only [q1] | simp only [q2] | simp only [q3] | simp only [Act.put] | simp only [q4] | simp only [q5] | simp only [q6]))
          refine tkH (i := 7) (v := ?_) rfl (by kernel_rfl) (fun _ _ _ h => h) (Or.inl ⟨by rfl, ?_⟩) HSg.out ?_
          rotate_left
          ·(intro W hSw; (try dsimp only at hSw); go_simp; try with_reducible rfl)
          (repeat (first | simp only [q1] | simp only [q2] | simp only [q3] | simp only [Act.put] | simp only [q4] | simp only [q5] | simp only [q6]))
          refine oneL (i := 8) (by kernel_rfl) rfl ?_
          (repeat (first | simp only [q1] | simp only [q2] | simp only [q3]))
          go_wp2_with fail
          change _ ∧ _
          refine ⟨HSg.out.alloc HSg.out.size _, ?_⟩
          (try dsimp only)
          (repeat (first | simp only [q1] | simp only [q2] | simp only [q3] | simp only [Act.put] | simp only [q4] | simp only [q5] | simp only [q6]))
          have HOw : Hid (wg.ownsRow w6.heap.size 27 2 (.slice (some ⟨ob, 0, none⟩) 1 1) 1 [.int .i64 amt, .slice A3 on c3]) := aside (own_shut (cur := [.int .i64 amt, .slice A3 on c3]) HTn.out.lo.2.1 ((HBg.out.block ob hobl).trans HOb.out) (Nat.le_refl _) (by unfold maxLen; omega) rfl rfl)
          have hzg := HSg.out.size
          refine oneL (i := 9) (by kernel_rfl) rfl ?_
          (repeat (first | simp only [q1] | simp only [q2] | simp only [q3]))
          go_wp2_with (first
           | (at_builtin; refine wpList_push rfl (.tmp 117) (.tmp 124) 30 rfl w6.heap.size _ 2 32 Tryz.underlying30 infoOut (by kernel_rfl) (by decide) (.slice (some ⟨ob, 0, none⟩) 1 1) 1 _ rfl rfl rfl (by simp [Value.oneCell']) HOw.out (by omega) (by unfold maxLen; omega) hzg ?_; intro O9 c9 w9 hc9 hc9' hown9 hb9 hz9 hg9)
           | fail)
          have HOw9 := aside hown9
          have HS9 : Hid (Below w6.heap.size w6 w9) := aside (HSg.out.trans hb9)
          have HT9 : Hid (w9.heap[tb]? = some (.cells #[.slice J p.length jc, .slice (some ⟨ob, 0, none⟩) 1 1, .int .i64 0] 32 (0, 0))) := aside ((hg9.by_.block tb (Nat.lt_of_lt_of_le htl HBg.out.size) (fun e => HTn.out.lo.2.2 (Option.some.inj (show some ob = some tb from e.symm)))).trans ((HBg.out.block tb htl).trans HIn2.out.tx))
          have HG9 := aside hg9
          clear hown9 hb9 hg9
          change _ ∧ _
          refine ⟨HS9.out, ?_⟩
          (try dsimp only)
          (repeat (first | simp only [q1] | simp only [q2] | simp only [q3] | simp only [Act.put] | simp only [q4] | simp only [q5] | simp only [q6]))
          refine tkH (i := 10) (v := ?_) rfl (by kernel_rfl) (fun _ _ _ h => h) (Or.inl ⟨by rfl, ?_⟩) HS9.out ?_
          rotate_left
          ·(intro W hSw; (try dsimp only at hSw); go_simp; try with_reducible rfl)
          (repeat (first | simp only [q1] | simp only [q2] | simp only [q3] | simp only [Act.put] | simp only [q4] | simp only [q5] | simp only [q6]))
          refine oneL (i := 11) (by kernel_rfl) rfl ?_
          (repeat (first | simp only [q1] | simp only [q2] | simp only [q3]))
          have z0 : w9.cell? ⟨tb, 1, none⟩ = some (.slice (some ⟨ob, 0, none⟩) 1 1) := by rw [cell_of_row _ _ 1 _ _ _ HT9.out]; rfl
          have zf : w9.frozen? ⟨tb, 1, none⟩ = false := frozen_of_row _ _ _ _ _ HT9.out
          go_wp2_with fail
          have HOu : Hid (OutsAt w6 w8 (w9.setCell ⟨tb, 1, none⟩ (.slice O9 2 c9)) b2 tb J p.length jc O9 2 c9 (insP ms p) [⟨amt, A3, on, c3, rs3⟩, ⟨left, A5, 2, c5, rs5⟩]) := aside (OutsAt.two HTn.out HIn2.out HBg.out (fun E hE => HDep.out.sx (fun x hx => by have h1 := hE x hx; have h2 := HBf.out.size; omega)) HOw9.out HG9.out)
          have HPo : Hid (([⟨amt, A3, on, c3, rs3⟩, ⟨left, A5, 2, c5, rs5⟩] : List ROut).map ROut.pl = outK amt (rs.map ROp.pl) left (L.2.map ROp.pl)) := aside (by
           unfold outK
           rw [if_pos hpos, ← HPl3.out, ← HPl5.out]
           rfl)
          have HOk : Hid (∀ o ∈ ([⟨amt, A3, on, c3, rs3⟩, ⟨left, A5, 2, c5, rs5⟩] : List ROut), OutOk o) := aside (fun o ho => by
           simp only [List.mem_cons, List.not_mem_nil, or_false] at ho
           rcases ho with rfl | rfl
           ·exact HO1.out
           ·refine ⟨?_, by show lkQ (rs5.map ROp.pl) = 0; rw [HPl5.out]; exact HLq2.out⟩
            show moneyE left = 0
            unfold moneyE
            rw [if_neg (by omega)])
          change _ ∧ _
          refine ⟨HOu.out.bl, ?_⟩
          (try dsimp only)
          (repeat (first | simp only [q1] | simp only [q2] | simp only [q3] | simp only [Act.put] | simp only [q4] | simp only [q5] | simp only [q6]))
          refine wpAnyH_done (by kernel_rfl) ?_ _
          go_wp2_with fail
          go_meet
          exact ⟨O9, 2, c9, _, HOu, HPo, aside ⟨by omega, by omega⟩, HOk⟩
         ·refine wpOp_of_list rfl ?_
          (repeat (first | simp only [q1] | simp only [q2] | simp only [q3]))
          go_wp2_with (first
           | (go_at_call 32; refine (wcopied_any L.2 L.1 2 2 wf ((HLR.out.below HSf.out).more HSf.out.size) (by omega) hLd).mono ?_; rintro e wg ⟨A5, c5, rs5, rfl, hdep, hpl, hb9⟩; have HDep := aside hdep; have HPl5 := aside hpl; have HBg : Hid (Below wr.heap.size wr wg) := aside (HBf.out.trans (hb9.mono HBf.out.size)); have HSg : Hid (Below w6.heap.size w6 wg) := aside (HB.out.trans (HBg.out.mono hwz)); have x1g : wg.cell? ⟨tb, 1, none⟩ = some (.slice (some ⟨ob, 0, none⟩) 1 1) := (HBg.out.cell (p := ⟨tb, 1, none⟩) htl).trans x1d; clear hdep hpl hb9)
           | fail)
          change _ ∧ _
          refine ⟨HSg.out, ?_⟩
          (try dsimp only)
          (repeat (first | simp only [q1] | simp only [q2] | simp only [q3] | simp only [Act.put] | simp only [q4] | simp only [q5] | simp only [q6]))
          refine tkH (i := 7) (v := ?_) rfl (by kernel_rfl) (fun _ _ _ h => h) (Or.inl ⟨by rfl, ?_⟩) HSg.out ?_
          rotate_left
          ·(intro W hSw; (try dsimp only at hSw); go_simp; try with_reducible rfl)
          (repeat (first | simp only [q1] | simp only [q2] | simp only [q3] | simp only [Act.put] | simp only [q4] | simp only [q5] | simp only [q6]))
          refine wpAnyH_all (rs := [1, 8]) (by kernel_rfl) (by simp) ?_
          intro m9 hm9
          simp only [List.mem_cons, List.not_mem_nil, or_false] at hm9
          rcases hm9 with rfl | rfl
          ·refine wpOp_of_list rfl ?_
           (repeat (first | simp only [q1] | simp only [q2] | simp only [q3]))
           go_wp2_with fail
           change _ ∧ _
           refine ⟨HSg.out, ?_⟩
           (try dsimp only)
           (repeat (first | simp only [q1] | simp only [q2] | simp only [q3] | simp only [Act.put] | simp only [q4] | simp only [q5] | simp only [q6]))
           refine oneL (i := 8) (by kernel_rfl) rfl ?_
           (repeat (first | simp only [q1] | simp only [q2] | simp only [q3]))
           go_wp2_with fail
           change _ ∧ _
           refine ⟨HSg.out.alloc HSg.out.size _, ?_⟩
           (try dsimp only)
           (repeat (first | simp only [q1] | simp only [q2] | simp only [q3] | simp only [Act.put] | simp only [q4] | simp only [q5] | simp only [q6]))
           have HOw : Hid (wg.ownsRow w6.heap.size 27 2 (.slice (some ⟨ob, 0, none⟩) 1 1) 1 [.int .i64 amt, .slice A3 on c3]) := aside (own_shut (cur := [.int .i64 amt, .slice A3 on c3]) HTn.out.lo.2.1 ((HBg.out.block ob hobl).trans HOb.out) (Nat.le_refl _) (by unfold maxLen; omega) rfl rfl)
           have hzg := HSg.out.size
           refine oneL (i := 9) (by kernel_rfl) rfl ?_
           (repeat (first | simp only [q1] | simp only [q2] | simp only [q3]))
           go_wp2_with (first
            | (at_builtin; refine wpList_push rfl (.tmp 117) (.tmp 124) 30 rfl w6.heap.size _ 2 32 Tryz.underlying30 infoOut (by kernel_rfl) (by decide) (.slice (some ⟨ob, 0, none⟩) 1 1) 1 _ rfl rfl rfl (by simp [Value.oneCell']) HOw.out (by omega) (by unfold maxLen; omega) hzg ?_; intro O9 c9 w9 hc9 hc9' hown9 hb9 hz9 hg9)
            | fail)
           have HOw9 := aside hown9
           have HS9 : Hid (Below w6.heap.size w6 w9) := aside (HSg.out.trans hb9)
           have HT9 : Hid (w9.heap[tb]? = some (.cells #[.slice J p.length jc, .slice (some ⟨ob, 0, none⟩) 1 1, .int .i64 0] 32 (0, 0))) := aside ((hg9.by_.block tb (Nat.lt_of_lt_of_le htl HBg.out.size) (fun e => HTn.out.lo.2.2 (Option.some.inj (show some ob = some tb from e.symm)))).trans ((HBg.out.block tb htl).trans HIn2.out.tx))
           have HG9 := aside hg9
           clear hown9 hb9 hg9
           change _ ∧ _
           refine ⟨HS9.out, ?_⟩
           (try dsimp only)
           (repeat (first | simp only [q1] | simp only [q2] | simp only [q3] | simp only [Act.put] | simp only [q4] | simp only [q5] | simp only [q6]))
           refine tkH (i := 10) (v := ?_) rfl (by kernel_rfl) (fun _ _ _ h => h) (Or.inl ⟨by rfl, ?_⟩) HS9.out ?_
           rotate_left
           ·(intro W hSw; (try dsimp only at hSw); go_simp; try with_reducible rfl)
           (repeat (first | simp only [q1] | simp only [q2] | simp only [q3] | simp only [Act.put] | simp only [q4] | simp only [q5] | simp only [q6]))
           refine oneL (i := 11) (by kernel_rfl) rfl ?_
           (repeat (first | simp only [q1] | simp only [q2] | simp only [q3]))
           have z0 : w9.cell? ⟨tb, 1, none⟩ = some (.slice (some ⟨ob, 0, none⟩) 1 1) := by rw [cell_of_row _ _ 1 _ _ _ HT9.out]; rfl
           have zf : w9.frozen? ⟨tb, 1, none⟩ = false := frozen_of_row _ _ _ _ _ HT9.out
           go_wp2_with fail
           have HOu : Hid (OutsAt w6 w8 (w9.setCell ⟨tb, 1, none⟩ (.slice O9 2 c9)) b2 tb J p.length jc O9 2 c9 (insP ms p) [⟨amt, A3, on, c3, rs3⟩, ⟨left, A5, 2, c5, rs5⟩]) := aside (OutsAt.two HTn.out HIn2.out HBg.out (fun E hE => HDep.out.sx (fun x hx => by have h1 := hE x hx; have h2 := HBf.out.size; omega)) HOw9.out HG9.out)
           have HPo : Hid (([⟨amt, A3, on, c3, rs3⟩, ⟨left, A5, 2, c5, rs5⟩] : List ROut).map ROut.pl = outK amt (rs.map ROp.pl) left (L.2.map ROp.pl)) := aside (by
            unfold outK
            rw [if_pos hpos, ← HPl3.out, ← HPl5.out]
            rfl)
           have HOk : Hid (∀ o ∈ ([⟨amt, A3, on, c3, rs3⟩, ⟨left, A5, 2, c5, rs5⟩] : List ROut), OutOk o) := aside (fun o ho => by
            simp only [List.mem_cons, List.not_mem_nil, or_false] at ho
            rcases ho with rfl | rfl
            ·exact HO1.out
            ·refine ⟨?_, by show lkQ (rs5.map ROp.pl) = 0; rw [HPl5.out]; exact HLq2.out⟩
             show moneyE left = 0
             unfold moneyE
             rw [if_neg (by omega)])
           change _ ∧ _
           refine ⟨HOu.out.bl, ?_⟩
           (try dsimp only)
           (repeat (first | simp only [q1] | simp only [q2] | simp only [q3] | simp only [Act.put] | simp only [q4] | simp only [q5] | simp only [q6]))
           refine wpAnyH_done (by kernel_rfl) ?_ _
           go_wp2_with fail
           go_meet
           exact ⟨O9, 2, c9, _, HOu, HPo, aside ⟨by omega, by omega⟩, HOk⟩
          ·refine wpOp_of_list rfl ?_
           (repeat (first | simp only [q1] | simp only [q2] | simp only [q3]))
           go_wp2_with fail
           change _ ∧ _
           refine ⟨HSg.out.alloc HSg.out.size _, ?_⟩
           (try dsimp only)
           (repeat (first | simp only [q1] | simp only [q2] | simp only [q3] | simp only [Act.put] | simp only [q4] | simp only [q5] | simp only [q6]))
           have x1e : (wg.alloc (.cells #[.int .i64 left, .slice A5 2 c5] 27)).cell? ⟨tb, 1, none⟩ = some (.slice (some ⟨ob, 0, none⟩) 1 1) := (((Below.refl wg.heap.size _).alloc (Nat.le_refl _) _).cell (p := ⟨tb, 1, none⟩) (Nat.lt_of_lt_of_le htl HBg.out.size)).trans x1g
           have hSe := HSg.out.alloc HSg.out.size (.cells #[.int .i64 left, .slice A5 2 c5] 27)
           generalize hWe : (wg.alloc (.cells #[.int .i64 left, .slice A5 2 c5] 27)) = we at x1e hSe ⊢
           refine oneL (i := 1) (by kernel_rfl) rfl ?_
           (repeat (first | simp only [q1] | simp only [q2] | simp only [q3]))
           go_wp2_with fail
           change _ ∧ _
           refine ⟨hSe, ?_⟩
           (try dsimp only)
           (repeat (first | simp only [q1] | simp only [q2] | simp only [q3] | simp only [Act.put] | simp only [q4] | simp only [q5] | simp only [q6]))
           clear x1e hSe
           subst hWe
           have HOw : Hid (wg.ownsRow w6.heap.size 27 2 (.slice (some ⟨ob, 0, none⟩) 1 1) 1 [.int .i64 amt, .slice A3 on c3]) := aside (own_shut (cur := [.int .i64 amt, .slice A3 on c3]) HTn.out.lo.2.1 ((HBg.out.block ob hobl).trans HOb.out) (Nat.le_refl _) (by unfold maxLen; omega) rfl rfl)
           have hzg := HSg.out.size
           refine oneL (i := 9) (by kernel_rfl) rfl ?_
           (repeat (first | simp only [q1] | simp only [q2] | simp only [q3]))
           go_wp2_with (first
            | (at_builtin; refine wpList_push rfl (.tmp 117) (.tmp 124) 30 rfl w6.heap.size _ 2 32 Tryz.underlying30 infoOut (by kernel_rfl) (by decide) (.slice (some ⟨ob, 0, none⟩) 1 1) 1 _ rfl rfl rfl (by simp [Value.oneCell']) HOw.out (by omega) (by unfold maxLen; omega) hzg ?_; intro O9 c9 w9 hc9 hc9' hown9 hb9 hz9 hg9)
            | fail)
           have HOw9 := aside hown9
           have HS9 : Hid (Below w6.heap.size w6 w9) := aside (HSg.out.trans hb9)
           have HT9 : Hid (w9.heap[tb]? = some (.cells #[.slice J p.length jc, .slice (some ⟨ob, 0, none⟩) 1 1, .int .i64 0] 32 (0, 0))) := aside ((hg9.by_.block tb (Nat.lt_of_lt_of_le htl HBg.out.size) (fun e => HTn.out.lo.2.2 (Option.some.inj (show some ob = some tb from e.symm)))).trans ((HBg.out.block tb htl).trans HIn2.out.tx))
           have HG9 := aside hg9
           clear hown9 hb9 hg9
           change _ ∧ _
           refine ⟨HS9.out, ?_⟩
           (try dsimp only)
           (repeat (first | simp only [q1] | simp only [q2] | simp only [q3] | simp only [Act.put] | simp only [q4] | simp only [q5] | simp only [q6]))
           refine tkH (i := 10) (v := ?_) rfl (by kernel_rfl) (fun _ _ _ h => h) (Or.inl ⟨by rfl, ?_⟩) HS9.out ?_
           rotate_left
           ·(intro W hSw; (try dsimp only at hSw); go_simp; try with_reducible rfl)
           (repeat (first | simp only [q1] | simp only [q2] | simp only [q3] | simp only [Act.put] | simp only [q4] | simp only [q5] | simp only [q6]))
           refine oneL (i := 11) (by kernel_rfl) rfl ?_
           (repeat (first | simp only [q1] | simp only [q2] | simp only [q3]))
           have z0 : w9.cell? ⟨tb, 1, none⟩ = some (.slice (some ⟨ob, 0, none⟩) 1 1) := by rw [cell_of_row _ _ 1 _ _ _ HT9.out]; rfl
           have zf : w9.frozen? ⟨tb, 1, none⟩ = false := frozen_of_row _ _ _ _ _ HT9.out
           go_wp2_with fail
           have HOu : Hid (OutsAt w6 w8 (w9.setCell ⟨tb, 1, none⟩ (.slice O9 2 c9)) b2 tb J p.length jc O9 2 c9 (insP ms p) [⟨amt, A3, on, c3, rs3⟩, ⟨left, A5, 2, c5, rs5⟩]) := aside (OutsAt.two HTn.out HIn2.out HBg.out (fun E hE => HDep.out.sx (fun x hx => by have h1 := hE x hx; have h2 := HBf.out.size; omega)) HOw9.out HG9.out)
           have HPo : Hid (([⟨amt, A3, on, c3, rs3⟩, ⟨left, A5, 2, c5, rs5⟩] : List ROut).map ROut.pl = outK amt (rs.map ROp.pl) left (L.2.map ROp.pl)) := aside (by
            unfold outK
            rw [if_pos hpos, ← HPl3.out, ← HPl5.out]
            rfl)
           have HOk : Hid (∀ o ∈ ([⟨amt, A3, on, c3, rs3⟩, ⟨left, A5, 2, c5, rs5⟩] : List ROut), OutOk o) := aside (fun o ho => by
            simp only [List.mem_cons, List.not_mem_nil, or_false] at ho
            rcases ho with rfl | rfl
            ·exact HO1.out
            ·refine ⟨?_, by show lkQ (rs5.map ROp.pl) = 0; rw [HPl5.out]; exact HLq2.out⟩
             show moneyE left = 0
             unfold moneyE
             rw [if_neg (by omega)])
           change _ ∧ _
           refine ⟨HOu.out.bl, ?_⟩
           (try dsimp only)
           (repeat (first | simp only [q1] | simp only [q2] | simp only [q3] | simp only [Act.put] | simp only [q4] | simp only [q5] | simp only [q6]))
           refine wpAnyH_done (by kernel_rfl) ?_ _
           go_wp2_with fail
           go_meet
           exact ⟨O9, 2, c9, _, HOu, HPo, aside ⟨by omega, by omega⟩, HOk⟩
      case rest =>
       obtain ⟨O, mo, mc, os, HOu, HPo, HMo, HOk⟩ := hcut
       obtain ⟨wx, hwx⟩ : ∃ wx, wx = wc := ⟨_, rfl⟩
       subst hwx
       obtain ⟨hmo0, hmo4⟩ := HMo.out
       have HBx := aside HOu.out.bl
       obtain ⟨e0, e1, e2⟩ : wx.cell? ⟨tb, 0, none⟩ = some (.slice J p.length jc) ∧ wx.cell? ⟨tb, 1, none⟩ = some (.slice O mo mc) ∧ wx.cell? ⟨tb, 2, none⟩ = some (.int .i64 0) := by
        refine ⟨?_, ?_, ?_⟩
        ·rw [cell_of_row _ tb 0 _ _ _ HOu.out.tx]; rfl
        ·rw [cell_of_row _ tb 1 _ _ _ HOu.out.tx]; rfl
        ·rw [cell_of_row _ tb 2 _ _ _ HOu.out.tx]; rfl
       have htlx := (Array.getElem?_eq_some_iff.1 HOu.out.tx).1
       have HOkp : Hid (∀ x ∈ p, Pk.OkZ ms.length x) := aside (by rw [HMl.out]; exact HFw.out.ok)
       obtain ⟨ins, hins⟩ : ∃ ins, ins = insP ms p := ⟨_, rfl⟩
       have hnsl : NSl wx wx.heap.size J p.length ins := by rw [hins]; exact Sl.own HOu.out.row
       have HId := aside (id_any ins os J O p.length jc mo mc (by omega) hmo0 hmo4 wx hnsl (by rw [hins]; exact insP_ok HMs.out HOkp.out) (by rw [hins]; exact insP_one HMs.out HOkp.out HOne.out) HOu.out.outs HOk.out (HG6.out.below HBx.out))
       obtain ⟨X, hX⟩ : ∃ X, X = idL (ins.map RIn.pl) (os.map ROut.pl) := ⟨_, rfl⟩
       have HXe := aside hX
       have HXl : Hid (X.length = 32) := aside (by rw [hX]; exact idL_len _ _)
       have HXb : Hid (∀ y ∈ X, y < 256) := aside (by rw [hX]; exact shaL_small _)
       rw [← hX] at HId
       rw [← hins] at HOu
       have HIns := aside hins
       clear hnsl hX hins e0 e1 e2
       obtain ⟨e0, e1, e2⟩ : wx.cell? ⟨tb, 0, none⟩ = some (.slice J p.length jc) ∧ wx.cell? ⟨tb, 1, none⟩ = some (.slice O mo mc) ∧ wx.cell? ⟨tb, 2, none⟩ = some (.int .i64 0) := by
        refine ⟨?_, ?_, ?_⟩
        ·rw [cell_of_row _ tb 0 _ _ _ HOu.out.tx]; rfl
        ·rw [cell_of_row _ tb 1 _ _ _ HOu.out.tx]; rfl
        ·rw [cell_of_row _ tb 2 _ _ _ HOu.out.tx]; rfl
       go_wp2_with fail
       refine HId.out.mono ?_
       rintro e wi ⟨rfl, hbi⟩
       have HBi := aside hbi
       have DZ : Hid ((wi.alloc (.cells (rowY (List.replicate 32 0)) 23)).heap[wi.heap.size]? = some (.cells (rowY (List.replicate 32 0)) 23 (0, 0))) := aside (heap_alloc_new _ _)
       have HSa : Hid ((Tryz.prog.info? 23).map (·.size) = some (rowY X).size) := aside (zinfo X HXl.out)
       have HSb : Hid ((rowY (List.replicate 32 0)).size = (rowY X).size) := aside (zsame _ _ zlen HXl.out)
       clear hbi HId e0 e1 e2
       go_upto_region 30 with (first
        | (refine wpList_store_row rfl 23 (.tmp 25) (.tmp 130) rfl wi.heap.size (rowY X) rfl rfl 23 (rowY (List.replicate 32 0)) DZ.out HSa.out HSb.out (rowY_one _) ?_)
        | fail)
       have HB10 : Hid (Below wx.heap.size wx ((wi.alloc (.cells (rowY (List.replicate 32 0)) 23)).setRow wi.heap.size (rowY X))) := aside (below_setRow (HBi.out.alloc HBi.out.size _) _ HBi.out.size _)
       have DI : Hid (BlkY ((wi.alloc (.cells (rowY (List.replicate 32 0)) 23)).setRow wi.heap.size (rowY X)) wi.heap.size 23 X) := aside (setRow_heap _ _ _ _ _ _ DZ.out)
       change Code.wp _ _ _ _ ((wi.alloc (.cells (rowY (List.replicate 32 0)) 23)).setRow wi.heap.size (rowY X))
       generalize ((wi.alloc (.cells (rowY (List.replicate 32 0)) 23)).setRow wi.heap.size (rowY X)) = w10 at HB10 DI ⊢
       obtain ⟨ib, hib⟩ : ∃ ib, ib = wi.heap.size := ⟨_, rfl⟩
       rw [← hib] at DI ⊢
       have hibx : wx.heap.size ≤ ib := by rw [hib]; exact HBi.out.size
       clear hib HBi DZ HSa HSb
       obtain ⟨tl, htl9⟩ := HOu.out.open_
       have hinl : ins.length = p.length := by rw [HIns.out]; exact insP_len _ _
       have HKs0 : Hid (KeysAt w6 w8 w10 w10 b2 J p.length jc tl [] (insP ms (p.drop 0))) := aside (by
        rw [List.drop_zero, ← HIns.out]
        exact HOu.out.keys hinl htl9 HB10.out)
       have HTl := aside htl9
       have HT10 : Hid (w10.heap[tb]? = some (.cells #[.slice J p.length jc, .slice O mo mc, .int .i64 0] 32 (0, 0))) := aside ((HB10.out.block tb htlx).trans HOu.out.tx)
       have hl10 : tb < w10.heap.size := (Array.getElem?_eq_some_iff.1 HT10.out).1
       have hlm : ls.length = N := by have := HLs6.out.len; simpa using this
       clear hinl htl9
       go_wp2_with fail
       go_loopw [138] (fun v138 wr => ∃ (k : Nat) (xs : List (RIn × List RKey)), k ≤ p.length ∧ v138 = .int .i64 k ∧ xs.length = k ∧ Hid (KeysAt w6 w8 w10 wr b2 J p.length jc tl xs (insP ms (p.drop k))) ∧ Hid (xs.map inT = inK d (ls.map lkP) X (ms.map RCoin.key) (p.take k))) (fun v138 _ => p.length - (Go.RowKit.intOf v138).toNat)
       case atStart => exact ⟨0, [], Nat.zero_le _, rfl, rfl, HKs0, aside rfl⟩
       case round =>
        clear HKs0
        obtain ⟨k, xs, hk, rfl, hxl, HKs, HIk⟩ := hrel
        by_cases hkn : k < p.length
        ·have k0 : (k : Int) < (p.length : Int) := by omega
         obtain ⟨z, hz⟩ : ∃ z, z = nth p k := ⟨_, rfl⟩
         have hok := HFw.out.ok _ (nth_mem hkn)
         rw [← hz] at hok
         have hzi : z = ((z.toNat : Nat) : Int) := by have := hok.1; omega
         obtain ⟨i, hi⟩ : ∃ i, i = z.toNat := ⟨_, rfl⟩
         rw [← hi] at hzi
         have hiK : i < K := by have := hok.2; omega
         have HB := aside HKs.out.bl
         have hwz := HB.out.size
         obtain ⟨pb, po, hAp, hpb, hpc6⟩ := ISl.at_ HPl6.out hkn
         have hpc := (HB.out.cell (p := ⟨pb, po + k, none⟩) hpb).trans hpc6
         obtain ⟨mb, mo2, hAm, hmb, hrg⟩ := HCm6.out.at_ hiK
         have hmem := HCm6.out.mem hiK
         have hdp : insP ms (p.drop k) = inOf (ms.getD i noC) :: insP ms (p.drop (k + 1)) := by
          rw [insP_drop hkn]
          show inOf (ms.getD (nth p k).toNat noC) :: _ = _
          rw [← hz, ← hi]
         have hik : inK d (ls.map lkP) X (ms.map RCoin.key) (p.take (k + 1)) = inK d (ls.map lkP) X (ms.map RCoin.key) (p.take k) ++ [((ms.getD i noC).tx, (ms.getD i noC).at_, [signL (seedG d (ownF (ls.map lkP) 0 (ms.getD i noC).pl)) X])] := by
          rw [inK_next hkn]
          show _ ++ [((ms.getD (nth p k).toNat noC).tx, (ms.getD (nth p k).toNat noC).at_, [signL (seedG d (ownF (ls.map lkP) 0 (ms.getD (nth p k).toNat noC).pl)) X])] = _
          rw [← hz, ← hi]
         rw [← hz, hzi] at hpc
         rw [hdp] at HKs
         have hmo9 := HMs.out.own _ hmem
         have hmt9 := (HMs.out.tx _ hmem).1
         have hrl := HCm6.out.lock _ hmem
         generalize ms.getD i noC = r at *
         obtain ⟨q, hq⟩ : ∃ q, q = ownF (ls.map lkP) 0 r.pl := ⟨_, rfl⟩
         have hq1 : q < 9223372036854775808 := by
          rw [hq, HLp.out, HN.out]
          have h9 := hmo9.2
          rw [List.length_map, List.length_range] at h9
          omega
         have HQe := aside hq
         rw [← hq] at hik
         have HIk2 := aside hik
         have HRo := aside (range_out hrg)
         have HRl := aside hrl
         obtain ⟨g, hJ, hg8, hgh⟩ := HKs.out.row (by omega)
         subst hJ
         have hgx : g < wx.heap.size := by
          obtain ⟨g9, e9, -, h9⟩ := HTl.out (by omega)
          injection e9 with e9
          injection e9 with e9
          rw [e9]
          exact (Array.getElem?_eq_some_iff.1 h9).1
         have i0 : (0 : Int) ≤ (i : Int) := by omega
         have i1 : (i : Int) < (K : Int) := by omega
         have HD0 : Hid (∀ W : World, Below wr.heap.size wr W → BlkY W B0 23 d) := aside (fun W hW => (HX6.out W (HB.out.trans (hW.mono hwz))).1)
         have HGr := aside (HG6.out.below HB.out)
         have HLsr : Hid (Sl wr wr.heap.size 1 A1 N (ls.map lkV)) := aside ((Sl.below HLs6.out HB.out).more hwz)
         have HLrr : Hid (∀ l ∈ ls, RSl wr wr.heap.size l.1 2 l.2) := aside (fun l hl => (HLr6.out l hl).step HB.out)
         have HRlr : Hid (RSl wr wr.heap.size r.lA r.ln r.lk) := aside (hrl.step HB.out)
         have hmbr : mb < wr.heap.size := by omega
         have HRor := aside (range_below HRo.out HB.out hmb)
         have hDl := HDl.out
         have HS32 : Hid ((Tryz.prog.info? 23).map (·.size) = some (u8s d).length) := aside (by rw [u8s_len, HDl.out]; exact digInfo)
         subst hAp hAm
         clear hrg hz hi hzi hok hpc6 hdp hik hmo9 hrl hgh hmem hq
         go_upto_region 35 with fail
         have l0r : B0 < wr.heap.size := (HD0.out wr (Below.refl _ _)).lt
         go_cut [28] from 143 to 151 (fun v28 wx2 => ∃ sb : Nat, v28 = .pointer (some ⟨sb, 0, none⟩) ∧ Hid (BlkY wx2 sb 23 (seedG d q)) ∧ Hid (wr.heap.size ≤ sb) ∧ Hid (Below wr.heap.size wr wx2))
         case first =>
          refine wp_region_held_drew (S := (fun w' => Below wr.heap.size wr w')) (by kernel_rfl) (below_drawn (Below.refl _ _) 1) (fun hS => ?_)
          refine tkH (i := 0) (v := _) rfl (by kernel_rfl) (fun _ _ _ h => h) (yieldsIf_load_mid (by rfl) _ _ rfl B0 0 rfl (u8s d) _ (fun W hW => (HD0.out W hW).range) Tryz.underlying23 rfl HS32.out) hS ?_
          (repeat (first | simp only [q1] | simp only [q2] | simp only [q3] | simp only [Act.put] | simp only [q4] | simp only [q5] | simp only [q6]))
          refine tkH (i := 1) (v := ?_) rfl (by kernel_rfl) (fun _ _ _ h => h) (Or.inl ⟨by rfl, ?_⟩) hS ?_
          rotate_left
          ·(intro W hSw; (try dsimp only at hSw); go_simp; try with_reducible rfl)
          (repeat (first | simp only [q1] | simp only [q2] | simp only [q3] | simp only [Act.put] | simp only [q4] | simp only [q5] | simp only [q6]))
          refine tkH (i := 2) (v := ?_) rfl (by kernel_rfl) (fun _ _ _ h => h) (Or.inl ⟨by rfl, ?_⟩) hS ?_
          rotate_left
          ·(intro W hSw; (try dsimp only at hSw); go_simp; try with_reducible rfl)
          (repeat (first | simp only [q1] | simp only [q2] | simp only [q3] | simp only [Act.put] | simp only [q4] | simp only [q5] | simp only [q6]))
          refine tkH (i := 3) (v := ?_) rfl (by kernel_rfl) (fun _ _ _ h => h) (Or.inl ⟨by rfl, ?_⟩) hS ?_
          rotate_left
          ·(intro W hSw; (try dsimp only at hSw); go_simp; try with_reducible rfl)
          (repeat (first | simp only [q1] | simp only [q2] | simp only [q3] | simp only [Act.put] | simp only [q4] | simp only [q5] | simp only [q6]))
          refine tkH (i := 4) (v := ?_) rfl (by kernel_rfl) (fun _ _ _ h => h) (Or.inl ⟨by rfl, ?_⟩) hS ?_
          rotate_left
          ·(intro W hSw; (try dsimp only at hSw); go_simp; try with_reducible rfl)
          (repeat (first | simp only [q1] | simp only [q2] | simp only [q3] | simp only [Act.put] | simp only [q4] | simp only [q5] | simp only [q6]))
          refine tkH (i := 5) (v := ?_) rfl (by kernel_rfl) (fun _ _ _ h => h) (Or.inl ⟨by rfl, ?_⟩) hS ?_
          rotate_left
          ·(intro W hSw; (try dsimp only at hSw); go_simp; try with_reducible rfl)
          (repeat (first | simp only [q1] | simp only [q2] | simp only [q3] | simp only [Act.put] | simp only [q4] | simp only [q5] | simp only [q6]))
          refine tkH (i := 6) (v := _) rfl (by kernel_rfl) (fun _ _ _ h => h) (yieldsIf_load_mid (by rfl) _ _ rfl mb (mo2 + i * 36 + 33) rfl [.int .i64 r.amt, .slice r.lA r.ln r.lc] _ (fun W hW => range_below HRor.out hW hmbr) Tryz.underlying27 rfl outInfo) hS ?_
          (repeat (first | simp only [q1] | simp only [q2] | simp only [q3] | simp only [Act.put] | simp only [q4] | simp only [q5] | simp only [q6]))
          refine wpAnyH_all (rs := [7, 9]) (by kernel_rfl) (by simp) ?_
          intro m9 hm9
          simp only [List.mem_cons, List.not_mem_nil, or_false] at hm9
          rcases hm9 with rfl | rfl
          ·refine wpOp_of_list rfl ?_
           (repeat (first | simp only [q1] | simp only [q2] | simp only [q3]))
           go_wp2_with (first
            | (go_at_call 36; refine (owns_any ls r.lk r.amt A1 r.lA N c1 r.ln r.lc hN1 _ ((Sl.below HLsr.out hS).more (hS).size) (fun l hl => (HLrr.out l hl).step hS) (HRlr.out.step hS)).mono ?_; rintro e wo ⟨rfl, hb9⟩; have HSo : Hid (Below wr.heap.size wr wo) := aside ((hS).trans (hb9.mono (hS).size)); have HBo := aside hb9; clear hb9)
            | fail)
           change _ ∧ _
           refine ⟨HSo.out, ?_⟩
           (try dsimp only)
           (repeat (first | simp only [q1] | simp only [q2] | simp only [q3] | simp only [Act.put] | simp only [q4] | simp only [q5] | simp only [q6]))
           rw [show ownF (ls.map lkP) 0 (r.lk.map ROp.pl) = q from HQe.out.symm]
           refine wpAnyH_all (rs := [8, 9]) (by kernel_rfl) (by simp) ?_
           intro m9 hm9
           simp only [List.mem_cons, List.not_mem_nil, or_false] at hm9
           rcases hm9 with rfl | rfl
           ·refine wpOp_of_list rfl ?_
            (repeat (first | simp only [q1] | simp only [q2] | simp only [q3]))
            go_wp2_with (first
             | (go_at_call 35; refine (show Calls _ _ #[digV d, _] _ _ from seedG_any d HDl.out HDb.out q hq1 _ (HGr.out.below HSo.out)).mono ?_; rintro e ws ⟨rfl, hb9⟩; have HSs : Hid (Below wr.heap.size wr ws) := aside ((HSo.out).trans (hb9.mono (HSo.out).size)); have HBs := aside hb9; clear hb9)
             | fail)
            change _ ∧ _
            refine ⟨HSs.out, ?_⟩
            (try dsimp only)
            (repeat (first | simp only [q1] | simp only [q2] | simp only [q3] | simp only [Act.put] | simp only [q4] | simp only [q5] | simp only [q6]))
            refine oneL (i := 9) (by kernel_rfl) rfl ?_
            (repeat (first | simp only [q1] | simp only [q2] | simp only [q3]))
            go_wp2_with fail
            change _ ∧ _
            refine ⟨(HSs.out).alloc (HSs.out).size _, ?_⟩
            (try dsimp only)
            (repeat (first | simp only [q1] | simp only [q2] | simp only [q3] | simp only [Act.put] | simp only [q4] | simp only [q5] | simp only [q6]))
            have HZ : Hid ((ws.alloc (.cells (rowY (List.replicate 32 0)) 23)).heap[ws.heap.size]? = some (.cells (rowY (List.replicate 32 0)) 23 (0, 0))) := aside (heap_alloc_new _ _)
            have HSa : Hid ((Tryz.prog.info? 23).map (·.size) = some (rowY (seedG d q)).size) := aside (zinfo _ (seedG_len d q))
            have HSb : Hid ((rowY (List.replicate 32 0)).size = (rowY (seedG d q)).size) := aside (zsame _ _ zlen (seedG_len d q))
            have HSx9 : Hid (Below wr.heap.size wr (ws.alloc (.cells (rowY (List.replicate 32 0)) 23))) := aside (HSs.out.alloc HSs.out.size _)
            refine oneL (i := 10) (by kernel_rfl) rfl ?_
            (repeat (first | simp only [q1] | simp only [q2] | simp only [q3]))
            refine wpList_store_row rfl 23 (.tmp 28) (.tmp 151) rfl ws.heap.size (rowY (seedG d q)) rfl rfl 23 (rowY (List.replicate 32 0)) HZ.out HSa.out HSb.out (rowY_one _) ?_
            change _ ∧ _
            refine ⟨below_setRow HSx9.out _ (by have := HSx9.out.size; exact HSs.out.size) _, ?_⟩
            (try dsimp only)
            (repeat (first | simp only [q1] | simp only [q2] | simp only [q3] | simp only [Act.put] | simp only [q4] | simp only [q5] | simp only [q6]))
            refine wpAnyH_done (by kernel_rfl) ?_ _
            go_wp2_with fail
            go_meet
            exact ⟨ws.heap.size, rfl, aside (setRow_heap _ _ _ _ _ _ HZ.out), aside (by have := HSx9.out.size; exact HSs.out.size), aside (below_setRow HSx9.out _ (by have := HSx9.out.size; exact HSs.out.size) _)⟩
           ·refine wpOp_of_list rfl ?_
            (repeat (first | simp only [q1] | simp only [q2] | simp only [q3]))
            go_wp2_with fail
            change _ ∧ _
            refine ⟨(HSo.out).alloc (HSo.out).size _, ?_⟩
            (try dsimp only)
            (repeat (first | simp only [q1] | simp only [q2] | simp only [q3] | simp only [Act.put] | simp only [q4] | simp only [q5] | simp only [q6]))
            have HSoa : Hid (Below wr.heap.size wr (wo.alloc (.cells (rowY (List.replicate 32 0)) 23))) := aside (HSo.out.alloc HSo.out.size _)
            refine oneL (i := 8) (by kernel_rfl) rfl ?_
            (repeat (first | simp only [q1] | simp only [q2] | simp only [q3]))
            go_wp2_with (first
             | (go_at_call 35; refine (show Calls _ _ #[digV d, _] _ _ from seedG_any d HDl.out HDb.out q hq1 _ (HGr.out.below HSoa.out)).mono ?_; rintro e ws ⟨rfl, hb9⟩; have HSs : Hid (Below wr.heap.size wr ws) := aside ((HSoa.out).trans (hb9.mono (HSoa.out).size)); have HBs := aside hb9; clear hb9)
             | fail)
            change _ ∧ _
            refine ⟨HSs.out, ?_⟩
            (try dsimp only)
            (repeat (first | simp only [q1] | simp only [q2] | simp only [q3] | simp only [Act.put] | simp only [q4] | simp only [q5] | simp only [q6]))
            have HZ : Hid ((ws).heap[wo.heap.size]? = some (.cells (rowY (List.replicate 32 0)) 23 (0, 0))) := aside ((HBs.out.block _ (by simp)).trans (heap_alloc_new wo _))
            have HSa : Hid ((Tryz.prog.info? 23).map (·.size) = some (rowY (seedG d q)).size) := aside (zinfo _ (seedG_len d q))
            have HSb : Hid ((rowY (List.replicate 32 0)).size = (rowY (seedG d q)).size) := aside (zsame _ _ zlen (seedG_len d q))
            have HSx9 : Hid (Below wr.heap.size wr (ws)) := aside (HSs.out)
            refine oneL (i := 10) (by kernel_rfl) rfl ?_
            (repeat (first | simp only [q1] | simp only [q2] | simp only [q3]))
            refine wpList_store_row rfl 23 (.tmp 28) (.tmp 151) rfl wo.heap.size (rowY (seedG d q)) rfl rfl 23 (rowY (List.replicate 32 0)) HZ.out HSa.out HSb.out (rowY_one _) ?_
            change _ ∧ _
            refine ⟨below_setRow HSx9.out _ (by have := HSx9.out.size; exact HSo.out.size) _, ?_⟩
            (try dsimp only)
            (repeat (first | simp only [q1] | simp only [q2] | simp only [q3] | simp only [Act.put] | simp only [q4] | simp only [q5] | simp only [q6]))
            refine wpAnyH_done (by kernel_rfl) ?_ _
            go_wp2_with fail
            go_meet
            exact ⟨wo.heap.size, rfl, aside (setRow_heap _ _ _ _ _ _ HZ.out), aside (by have := HSx9.out.size; exact HSo.out.size), aside (below_setRow HSx9.out _ (by have := HSx9.out.size; exact HSo.out.size) _)⟩
          ·refine wpOp_of_list rfl ?_
           (repeat (first | simp only [q1] | simp only [q2] | simp only [q3]))
           go_wp2_with fail
           have HSda : Hid (Below wr.heap.size wr ((wr.drewN 1).alloc (.cells (rowY (List.replicate 32 0)) 23))) := aside (hS.alloc (Nat.le_refl _) _)
           change _ ∧ _
           refine ⟨HSda.out, ?_⟩
           (try dsimp only)
           (repeat (first | simp only [q1] | simp only [q2] | simp only [q3] | simp only [Act.put] | simp only [q4] | simp only [q5] | simp only [q6]))
           refine oneL (i := 7) (by kernel_rfl) rfl ?_
           (repeat (first | simp only [q1] | simp only [q2] | simp only [q3]))
           go_wp2_with (first
            | (go_at_call 36; refine (owns_any ls r.lk r.amt A1 r.lA N c1 r.ln r.lc hN1 _ ((Sl.below HLsr.out HSda.out).more (HSda.out).size) (fun l hl => (HLrr.out l hl).step HSda.out) (HRlr.out.step HSda.out)).mono ?_; rintro e wo ⟨rfl, hb9⟩; have HSo : Hid (Below wr.heap.size wr wo) := aside ((HSda.out).trans (hb9.mono (HSda.out).size)); have HBo := aside hb9; clear hb9)
            | fail)
           change _ ∧ _
           refine ⟨HSo.out, ?_⟩
           (try dsimp only)
           (repeat (first | simp only [q1] | simp only [q2] | simp only [q3] | simp only [Act.put] | simp only [q4] | simp only [q5] | simp only [q6]))
           rw [show ownF (ls.map lkP) 0 (r.lk.map ROp.pl) = q from HQe.out.symm]
           refine oneL (i := 8) (by kernel_rfl) rfl ?_
           (repeat (first | simp only [q1] | simp only [q2] | simp only [q3]))
           go_wp2_with (first
            | (go_at_call 35; refine (show Calls _ _ #[digV d, _] _ _ from seedG_any d HDl.out HDb.out q hq1 _ (HGr.out.below HSo.out)).mono ?_; rintro e ws ⟨rfl, hb9⟩; have HSs : Hid (Below wr.heap.size wr ws) := aside ((HSo.out).trans (hb9.mono (HSo.out).size)); have HBs := aside hb9; clear hb9)
            | fail)
           change _ ∧ _
           refine ⟨HSs.out, ?_⟩
           (try dsimp only)
           (repeat (first | simp only [q1] | simp only [q2] | simp only [q3] | simp only [Act.put] | simp only [q4] | simp only [q5] | simp only [q6]))
           have HZ : Hid ((ws).heap[wr.heap.size]? = some (.cells (rowY (List.replicate 32 0)) 23 (0, 0))) := aside ((HBs.out.block _ (by have := HBo.out.size; simp at this; omega)).trans ((HBo.out.block _ (by simp)).trans (heap_alloc_new (wr.drewN 1) _)))
           have HSa : Hid ((Tryz.prog.info? 23).map (·.size) = some (rowY (seedG d q)).size) := aside (zinfo _ (seedG_len d q))
           have HSb : Hid ((rowY (List.replicate 32 0)).size = (rowY (seedG d q)).size) := aside (zsame _ _ zlen (seedG_len d q))
           have HSx9 : Hid (Below wr.heap.size wr (ws)) := aside (HSs.out)
           refine oneL (i := 10) (by kernel_rfl) rfl ?_
           (repeat (first | simp only [q1] | simp only [q2] | simp only [q3]))
           refine wpList_store_row rfl 23 (.tmp 28) (.tmp 151) rfl wr.heap.size (rowY (seedG d q)) rfl rfl 23 (rowY (List.replicate 32 0)) HZ.out HSa.out HSb.out (rowY_one _) ?_
           change _ ∧ _
           refine ⟨below_setRow HSx9.out _ (by have := HSx9.out.size; exact Nat.le_refl _) _, ?_⟩
           (try dsimp only)
           (repeat (first | simp only [q1] | simp only [q2] | simp only [q3] | simp only [Act.put] | simp only [q4] | simp only [q5] | simp only [q6]))
           refine wpAnyH_done (by kernel_rfl) ?_ _
           go_wp2_with fail
           go_meet
           exact ⟨wr.heap.size, rfl, aside (setRow_heap _ _ _ _ _ _ HZ.out), aside (by have := HSx9.out.size; exact Nat.le_refl _), aside (below_setRow HSx9.out _ (by have := HSx9.out.size; exact Nat.le_refl _) _)⟩
         case rest =>
          obtain ⟨sb, rfl, HSd, HSbz, HBsx⟩ := hcut
          obtain ⟨w20, hw20⟩ : ∃ w20, w20 = wc := ⟨_, rfl⟩
          subst hw20
          have HKs2 := aside (HKs.out.call HBsx.out)
          have hgE : ∀ b, ¬ b = b2 → ¬ b = g → ¬ (fun b => b = b2 ∨ (Value.slice (some ⟨g, 0, none⟩) p.length jc).ownBlock = some b) b := fun b h1 h2 h3 => h3.elim h1 (fun e => h2 (Option.some.inj (show some g = some b from e)).symm)
          have HgE := aside hgE
          have htb2 : ¬ tb = b2 := by omega
          have htbg : ¬ tb = g := by omega
          have HTb : Hid (w20.heap[tb]? = some (.cells #[.slice (some ⟨g, 0, none⟩) p.length jc, .slice O mo mc, .int .i64 0] 32 (0, 0))) := aside (heap_kp HKs2.out.kp HT10.out (hgE tb htb2 htbg))
          have hibg : ¬ ib = g := by omega
          have hib2 : ¬ ib = b2 := by have := HBx.out.size; omega
          have HIb : Hid (BlkY w20 ib 23 X) := aside (heap_kp HKs2.out.kp DI.out (hgE ib hib2 hibg))
          have hgw : g < wr.heap.size := by have := HKs.out.kp.2; have := HB10.out.size; omega
          have hsbg : ¬ sb = g := by have := HSbz.out; omega
          have hsb2 : ¬ sb = b2 := by have := HSbz.out; omega
          have HX32 : Hid ((Tryz.prog.info? 23).map (·.size) = some (u8s X).length) := aside (by rw [u8s_len, HXl.out]; exact digInfo)
          have HS3b : Hid ((Tryz.prog.info? 23).map (·.size) = some (u8s (seedG d q)).length) := aside (by rw [u8s_len, seedG_len]; exact digInfo)
          have HSgn := aside (show Calls _ _ #[digV (seedG d q), digV X] _ _ from sign_any (seedG d q) X (seedG_len d q) (seedG_small d q) HXl.out HXb.out (w20.drewN 1) (HG6.out.below (HKs2.out.bl.trans (below_drawn (Below.refl _ _) 1))))
          have HLd := aside (show ∀ W, Kp (fun b => b = b2 ∨ (Value.slice (some ⟨g, 0, none⟩) p.length jc).ownBlock = some b) w20 W → W.cell? ⟨tb, 0, none⟩ = some (.slice (some ⟨g, 0, none⟩) p.length jc) from fun W hW => by rw [cell_of_row _ tb 0 _ _ _ (heap_kp hW HTb.out (HgE.out tb htb2 htbg))]; rfl)
          have hKd : Kp (fun b => b = b2 ∨ (Value.slice (some ⟨g, 0, none⟩) p.length jc).ownBlock = some b) w20 (w20.drewN 1) := Kp.of (below_drawn (Below.refl _ _) 1)
          clear hgE HKs HB hwz
          go_upto_region 36 with fail
          refine wp_region_held_drew (S := (fun w' => Kp (fun b => b = b2 ∨ (Value.slice (some ⟨g, 0, none⟩) p.length jc).ownBlock = some b) w20 w')) (by kernel_rfl) hKd (fun hS => ?_)
          refine tkH (i := 0) (v := ?_) rfl (by kernel_rfl) (fun _ _ _ h => h) (Or.inl ⟨by rfl, ?_⟩) hS ?_
          rotate_left
          ·(intro W hSw; (try dsimp only at hSw); go_simp; try with_reducible rfl)
          (repeat (first | simp only [q1] | simp only [q2] | simp only [q3] | simp only [Act.put] | simp only [q4] | simp only [q5] | simp only [q6]))
          refine tkH (i := 1) (v := ?_) rfl (by kernel_rfl) (fun _ _ _ h => h) (Or.inl ⟨by rfl, ?_⟩) hS ?_
          rotate_left
          ·(intro W hSw; (try dsimp only at hSw); have hx9 : W.cell? ⟨tb, 0, none⟩ = some (.slice (some ⟨g, 0, none⟩) p.length jc) := HLd.out W hSw; go_simp; try with_reducible rfl)
          (repeat (first | simp only [q1] | simp only [q2] | simp only [q3] | simp only [Act.put] | simp only [q4] | simp only [q5] | simp only [q6]))
          refine tkH (i := 2) (v := ?_) rfl (by kernel_rfl) (fun _ _ _ h => h) (Or.inl ⟨by rfl, ?_⟩) hS ?_
          rotate_left
          ·(intro W hSw; (try dsimp only at hSw); go_simp; try with_reducible rfl)
          (repeat (first | simp only [q1] | simp only [q2] | simp only [q3] | simp only [Act.put] | simp only [q4] | simp only [q5] | simp only [q6]))
          refine tkH (i := 3) (v := _) rfl (by kernel_rfl) (fun _ _ _ h => h) (yieldsIf_load_mid (by rfl) _ _ rfl sb 0 rfl (u8s (seedG d q)) _ (fun W hW => BlkY.range (heap_kp hW HSd.out (HgE.out sb hsb2 hsbg))) Tryz.underlying23 rfl HS3b.out) hS ?_
          (repeat (first | simp only [q1] | simp only [q2] | simp only [q3] | simp only [Act.put] | simp only [q4] | simp only [q5] | simp only [q6]))
          refine tkH (i := 4) (v := _) rfl (by kernel_rfl) (fun _ _ _ h => h) (yieldsIf_load_mid (by rfl) _ _ rfl ib 0 rfl (u8s X) _ (fun W hW => BlkY.range (heap_kp hW HIb.out (HgE.out ib hib2 hibg))) Tryz.underlying23 rfl HX32.out) hS ?_
          (repeat (first | simp only [q1] | simp only [q2] | simp only [q3] | simp only [Act.put] | simp only [q4] | simp only [q5] | simp only [q6]))
          refine oneL (i := 5) (by kernel_rfl) rfl ?_
          (repeat (first | simp only [q1] | simp only [q2] | simp only [q3]))
          go_wp2_with (first
           | (go_at_call 37; refine HSgn.out.mono ?_; rintro e wS ⟨v, rfl, hv, hb9⟩; have HV := aside hv; have HBS : Hid (Below w20.heap.size w20 wS) := aside ((below_drawn (Below.refl w20.heap.size w20) 1).trans hb9); have HKS : Hid (Kp (fun b => b = b2 ∨ (Value.slice (some ⟨g, 0, none⟩) p.length jc).ownBlock = some b) w20 wS) := aside (Kp.of HBS.out); clear hv hb9)
           | fail)
          change _ ∧ _
          refine ⟨HKS.out, ?_⟩
          (try dsimp only)
          (repeat (first | simp only [q1] | simp only [q2] | simp only [q3] | simp only [Act.put] | simp only [q4] | simp only [q5] | simp only [q6]))
          obtain ⟨Av, cv, hve, -⟩ := HV.out.sl
          subst hve
          have HBSa : Hid (Below w20.heap.size w20 (wS.alloc (.cells #[.slice Av (signL (seedG d q) X).length cv] 67))) := aside (HBS.out.alloc HBS.out.size _)
          have HKSa : Hid (Kp (fun b => b = b2 ∨ (Value.slice (some ⟨g, 0, none⟩) p.length jc).ownBlock = some b) w20 (wS.alloc (.cells #[.slice Av (signL (seedG d q) X).length cv] 67))) := aside (Kp.of HBSa.out)
          refine oneL (i := 6) (by kernel_rfl) rfl ?_
          (repeat (first | simp only [q1] | simp only [q2] | simp only [q3]))
          go_wp2_with fail
          change _ ∧ _
          refine ⟨HKSa.out, ?_⟩
          (try dsimp only)
          (repeat (first | simp only [q1] | simp only [q2] | simp only [q3] | simp only [Act.put] | simp only [q4] | simp only [q5] | simp only [q6]))
          refine tkH (i := 7) (v := ?_) rfl (by kernel_rfl) (fun _ _ _ h => h) (Or.inl ⟨by rfl, ?_⟩) HKSa.out ?_
          rotate_left
          ·(intro W hSw; (try dsimp only at hSw); go_simp; try with_reducible rfl)
          (repeat (first | simp only [q1] | simp only [q2] | simp only [q3] | simp only [Act.put] | simp only [q4] | simp only [q5] | simp only [q6]))
          refine tkH (i := 8) (v := ?_) rfl (by kernel_rfl) (fun _ _ _ h => h) (Or.inl ⟨by rfl, ?_⟩) HKSa.out ?_
          rotate_left
          ·(intro W hSw; (try dsimp only at hSw); go_simp; try with_reducible rfl)
          (repeat (first | simp only [q1] | simp only [q2] | simp only [q3] | simp only [Act.put] | simp only [q4] | simp only [q5] | simp only [q6]))
          have HKA := aside (HKs2.out.call HBSa.out)
          obtain ⟨y33, yf33⟩ := HKA.out.at_ hxl
          have HVa : Hid (BRow (wS.alloc (.cells #[.slice Av (signL (seedG d q) X).length cv] 67)) 0 (.slice Av (signL (seedG d q) X).length cv) (signL (seedG d q) X)) := aside ((HV.out.below ((Below.refl _ _).alloc (Nat.le_refl _) _)).less (Nat.zero_le _))
          have HSx1 : Hid (Sx (fun b => b = b2 ∨ (Value.slice (some ⟨g, 0, none⟩) p.length jc).ownBlock = some b) (wS.alloc (.cells #[.slice Av (signL (seedG d q) X).length cv] 67)) (fun W => KSl W W.heap.size (some ⟨wS.heap.size, 0, none⟩) 1 [⟨Av, (signL (seedG d q) X).length, cv, signL (seedG d q) X⟩])) := aside (ksl_one (heap_alloc_new wS _) (HgE.out _ (by have h1 := HBS.out.size; have h2 := HBsx.out.size; omega) (by have h1 := HBS.out.size; have h2 := HBsx.out.size; omega)) HVa.out (fun k9 hk9 => by
           have h1 := HV.out.from_ k9 hk9
           have h2 : w20.heap.size ≤ k9 := h1
           have h3 := HBsx.out.size
           exact HgE.out k9 (by omega) (by omega)))
          have HKs3 := aside (HKA.out.store hxl (show w6.heap.size ≤ g by have := HB8.out.size; omega) hmt9 (by show (signL (seedG d q) X).length ≤ 100000; rw [signL_len]; omega) HSx1.out)
          have HIk3 : Hid ((xs ++ [({ inOf r with kA := some ⟨wS.heap.size, 0, none⟩, kn := 1, kc := 1 }, [(⟨Av, (signL (seedG d q) X).length, cv, signL (seedG d q) X⟩ : RKey)])]).map inT = inK d (ls.map lkP) X (ms.map RCoin.key) (p.take (k + 1))) := aside (by
           rw [List.map_append, HIk.out, HIk2.out]
           rfl)
          refine oneL (i := 9) (by kernel_rfl) rfl ?_
          (repeat (first | simp only [q1] | simp only [q2] | simp only [q3]))
          go_wp2_with fail
          have HKst : Hid (Kp (fun b => b = b2 ∨ (Value.slice (some ⟨g, 0, none⟩) p.length jc).ownBlock = some b) w20 ((wS.alloc (.cells #[.slice Av (signL (seedG d q) X).length cv] 67)).setCell ⟨g, k * 34 + 33, none⟩ (.slice (some ⟨wS.heap.size, 0, none⟩) 1 1))) := aside (HKSa.out.set (.inr rfl) _ _)
          change _ ∧ _
          refine ⟨HKst.out, ?_⟩
          (try dsimp only)
          (repeat (first | simp only [q1] | simp only [q2] | simp only [q3] | simp only [Act.put] | simp only [q4] | simp only [q5] | simp only [q6]))
          refine wpAnyH_done (by kernel_rfl) ?_ _
          go_upto_region 37 with fail
          change Code.wp _ _ _ _ ((wS.alloc (.cells #[.slice Av (signL (seedG d q) X).length cv] 67)).setCell ⟨g, k * 34 + 33, none⟩ (.slice (some ⟨wS.heap.size, 0, none⟩) 1 1))
          generalize ((wS.alloc (.cells #[.slice Av (signL (seedG d q) X).length cv] 67)).setCell ⟨g, k * 34 + 33, none⟩ (.slice (some ⟨wS.heap.size, 0, none⟩) 1 1)) = wz at HKs3 ⊢
          clear HKA y33 yf33 HVa HSx1 HKst HKSa HBSa HKS HBS HV HKs2 HIb HTb hKd hS
          go_wp2
          exact ⟨⟨k + 1, _, by omega, by go_num, by rw [List.length_append, hxl]; rfl, HKs3, HIk3⟩, by simp [Go.RowKit.intOf]; omega⟩
        ·obtain rfl : k = p.length := by omega
         have i0 : ((p.length : Int) < (p.length : Int)) = False := by simp
         rw [List.drop_length] at HKs
         rw [List.take_length] at HIk
         have HB := aside HKs.out.bl
         have HBw9 : Hid (Below w.heap.size w wr) := aside (HBw6.out.trans (HB.out.mono HBw6.out.size))
         have D2x : Hid (wr.heap[b2]? = some (.cells #[.slice none 0 0, .slice none 0 0, .int .i64 0] 32 (0, 0))) := aside ((HX6.out wr HB.out).2.2)
         have htbE : ¬ (tb = b2 ∨ (Value.slice J p.length jc).ownBlock = some tb) := fun e => by
          rcases e with e | e
          ·omega
          ·have h9 := own_block_ge HOu.out.row tb e
           omega
         have HTb : Hid (wr.heap[tb]? = some (.cells #[.slice J p.length jc, .slice O mo mc, .int .i64 0] 32 (0, 0))) := aside (heap_kp HKs.out.kp HT10.out htbE)
         have hb28 : b2 < w8.heap.size := Nat.lt_of_lt_of_le hlow HB8.out.size
         have HTi : Hid (TIns (((wr.setCell ⟨b2, 0, none⟩ (.slice J p.length jc)).setCell ⟨b2, 1, none⟩ (.slice O mo mc)).setCell ⟨b2, 2, none⟩ (.int .i64 0)) (((wr.setCell ⟨b2, 0, none⟩ (.slice J p.length jc)).setCell ⟨b2, 1, none⟩ (.slice O mo mc)).setCell ⟨b2, 2, none⟩ (.int .i64 0)).heap.size J p.length xs) := aside (KeysAt.done HKs.out hb28 ((((Kp.refl (fun b => b = b2) wr).set rfl 0 _).set rfl 1 _).set rfl 2 _))
         have HOi : Hid (OSl (((wr.setCell ⟨b2, 0, none⟩ (.slice J p.length jc)).setCell ⟨b2, 1, none⟩ (.slice O mo mc)).setCell ⟨b2, 2, none⟩ (.int .i64 0)) (((wr.setCell ⟨b2, 0, none⟩ (.slice J p.length jc)).setCell ⟨b2, 1, none⟩ (.slice O mo mc)).setCell ⟨b2, 2, none⟩ (.int .i64 0)).heap.size O mo os) := aside (HOu.out.stay _ (((((Kp.of HB10.out).trans HKs.out.kp).set (x := b2) (.inl rfl) 0 _).set (x := b2) (.inl rfl) 1 _).set (x := b2) (.inl rfl) 2 _))
         have HRp : Hid (R = (0, xs.map inT, os.map ROut.pl)) := aside (by
          rw [HR.out, pay4 (d := d) HQ1.out HW2.out HMk.out (by rw [← HNs.out, HW1.out]; exact HPq.out)]
          unfold paidK
          rw [HW1.out, amtK_key, ← HNs.out, ← HPt.out, ← HLe.out, ← HN.out, ← HLp.out, ← HLp2.out, ← insP_pl, ← HPo.out, ← HIns.out, ← HXe.out, ← HIk.out])
         have HS9 : Hid ((Tryz.prog.info? 32).map (·.size) = some (#[.slice J p.length jc, .slice O mo mc, .int .i64 0] : Array Value).size) := aside (by kernel_rfl)
         have hsh : ∀ o ∈ os, o.ln ≤ 1000 ∧ ∀ r ∈ o.lk, r.dn ≤ 1000 := fun o ho => by
          obtain ⟨h1, h2⟩ := lock_short2 (HOu.out.outs.lock o ho) (HOk.out o ho).2
          exact ⟨by omega, fun r hr => by have := h2 r hr; omega⟩
         have HSh := aside hsh
         have xc0 : wr.cell? ⟨b2, 0, none⟩ = some (.slice none 0 0) := by rw [cell_of_row _ _ 0 _ _ _ D2x.out]; rfl
         have xc1 : wr.cell? ⟨b2, 1, none⟩ = some (.slice none 0 0) := by rw [cell_of_row _ _ 1 _ _ _ D2x.out]; rfl
         have xc2 : wr.cell? ⟨b2, 2, none⟩ = some (.int .i64 0) := by rw [cell_of_row _ _ 2 _ _ _ D2x.out]; rfl
         have xf0 : wr.frozen? ⟨b2, 0, none⟩ = false := frozen_of_row _ _ _ _ _ D2x.out
         have xf1 : wr.frozen? ⟨b2, 1, none⟩ = false := frozen_of_row _ _ _ _ _ D2x.out
         have xf2 : wr.frozen? ⟨b2, 2, none⟩ = false := frozen_of_row _ _ _ _ _ D2x.out
         have t0 : wr.cell? ⟨tb, 0, none⟩ = some (.slice J p.length jc) := by rw [cell_of_row _ _ 0 _ _ _ HTb.out]; rfl
         have t1 : wr.cell? ⟨tb, 1, none⟩ = some (.slice O mo mc) := by rw [cell_of_row _ _ 1 _ _ _ HTb.out]; rfl
         have t2 : wr.cell? ⟨tb, 2, none⟩ = some (.int .i64 0) := by rw [cell_of_row _ _ 2 _ _ _ HTb.out]; rfl
         clear hsh htbE hkn
         go_wp2_with fail
         (try simp only [Exit.inBlock, Exit.then])
         refine bodyPost_ret (results_cell_tmp rfl _ _ b2 32 #[.slice J p.length jc, .slice O mo mc, .int .i64 0] (0, 0) _ rfl (set3 D2x.out _ _ _) Tryz.underlying32 rfl HS9.out) rfl ?_
         rw [HRp.out]
         exact ⟨J, p.length, jc, O, mo, mc, xs, os, rfl, HTi.out, HOi.out, rfl, rfl, ⟨by omega, by omega, HSh.out⟩, below_set3 HBw9.out (by rw [Eb2.out, EB.out]; omega) _ _ _⟩
end Go.Proofs.YtbpabjhcjffkmaaGreatDoor
